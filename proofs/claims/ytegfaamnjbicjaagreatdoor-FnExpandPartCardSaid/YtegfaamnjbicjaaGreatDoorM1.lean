/- A part of the proof: what stands for the program, its functions, and what they come to. -/
import Derived.Calls
import Derived.Lib.ItoaNum
import Derived.KernelRfl
import Derived.Laws.Sem
import Derived.Laws.World
import Derived.Laws.Cells
import Derived.Laws.Rows
import Derived.Laws.Append
import Derived.Laws.Slices
import Derived.Laws.Tables
import Derived.IntWalk
import Derived.Laws.Strings
import Derived.Laws.Small
import Derived.Laws.StructEq
import Derived.Laws.BytesString
import Derived.Laws.AppendOwn
import Derived.Laws.MakeOwn
import Derived.ChangeMaps4
import Derived.Lib.ConvBytes
set_option linter.all false
namespace Go.Fw
open Go
def GW(w:World):Prop:=(∃m,w.cell? ⟨0,0,none⟩=some (.int .i64 m))/\(∃e z,w.heap[3]? =some (.cells (Lib.pow10Tab.map fun z=>Value.int .u64 z).toArray e z))/\
 (∃t p,w.cell? ⟨4,0,none⟩=some (.iface t p))/\∃t p,w.cell? ⟨5,0,none⟩=some (.iface t p)
def TB:TypeId:=146
def T5:TypeId:=5
end Go.Fw
namespace Go.Fw
open Go
theorem yga{α:Type _}{l:List α}{i:Nat}{a:α}:l[i]?=some a↔∃h:i<l.length,l[i]=a:=List.getElem?_eq_some_iff
theorem ygb{α:Type _}{l:List α}{i:Nat}(h:i<l.length):l[i]?=some l[i]:=List.getElem?_eq_getElem h
theorem ygc{α Z:Type _}{b:Z}{o:Option α}{f:α->Option Z}:o.bind f=some b↔∃a,o=some a/\f a=some b:=Option.bind_eq_some_iff
theorem ygd{α:Type _}{l:List α}{i:Nat}{a:α}(e:l[i]?=some a):a∈l:=List.mem_of_getElem? e
theorem yge{α:Type _}{l m:List α}{n:Nat}(h:n<l.length):(l++m)[n]?=l[n]?:=List.getElem?_append_left h
theorem ygf{α:Type _}{l m:List α}{n:Nat}(h:l.length<=n):(l++m)[n]?=m[n-l.length]?:=List.getElem?_append_right h
theorem ygg{α:Type _}{l:List α}{i j:Nat}(h:i≠j){a:α}:(l.set i a)[j]?=l[j]?:=List.getElem?_set_ne h
theorem ygh{α:Type _}{l:List α}{n:Nat}(h:n<l.length):l[n]∈l:=List.getElem_mem h
theorem yhb(a b:Bool):((a&&b)=true)=(a=true/\b=true):=Bool.and_eq_true a b
theorem yhc{p:Prop}[Decidable p]:(decide p=true)=p:=decide_eq_true_eq
theorem yhd{p:Prop}[Decidable p]:decide p=false↔¬p:=decide_eq_false_iff_not
theorem yhe{α:Type}[BEq α][LawfulBEq α]{a b:α}:(a==b)=true↔a=b:=beq_iff_eq
theorem yhf{α:Type}[BEq α][LawfulBEq α]{a b:α}:(a !=b)=true↔a≠b:=bne_iff_ne
theorem yhg{α:Type}[BEq α][LawfulBEq α]{a b:α}:(a==b)=false↔a≠b:=beq_eq_false_iff_ne
theorem yhh{α:Type}[BEq α][LawfulBEq α]{a b:α}:(a !=b)=false↔a=b:=bne_eq_false_iff_eq
theorem yhi:(true=false)=False:=Bool.true_eq_false
theorem yhj:(false=true)=False:=Bool.false_eq_true
theorem yhk(p:Prop):(False->p)=True:=false_implies p
theorem yhl(p:Prop):(True->p)=p:=true_implies p
theorem yhm(p:Prop):(p/\True)=p:=and_true p
theorem yhn(p:Prop):(True/\p)=p:=true_and p
theorem yho(b:Bool):((!b)=true)=(b=false):=Bool.not_eq_true' b
theorem yhp(b:Bool):((!b)=false)=(b=true):=Bool.not_eq_false' b
theorem yhq(α:Sort _):(α->True)=True:=implies_true α
theorem yhr{α:Type}{a b:List α}:(a++b).length=a.length+b.length:=List.length_append
theorem yhs{α:Type}{a:α}{l:List α}:(a::l).length=l.length+1:=List.length_cons
theorem yht{α:Type}:([]:List α).length=0:=List.length_nil
def BIG:Nat:=9223372036854775807
inductive AV where
|junk
|int (k:IntKind)(n:Int)
|bool (b:Bool)
|str (s:List UInt8)
|agg (cs:List AV)
|tup (vs:List AV)
|e0
|sl (es:Nat)(rows:List (List AV))
|ip (cs:List AV)
|ms (i es off len:Nat)
|mp (i r off:Nat)
|fn (f:FuncId)(caps:List AV)
|mapr (i:Nat)
|nilp
|nilf
|nilm
|opt (b:Bool)(v:AV)
abbrev Hp:=Nat->Option Obj
abbrev Bt:=List (Option (Nat×Nat×Nat))
def AV.isCell:AV->Bool
|.agg _|.tup _|.junk|.opt _ _=>false
|.int _ _|.bool _|.str _|.e0|.sl _ _|.ip _|.ms _ _ _ _|.mp _ _ _|.fn _ _|.mapr _|.nilp|.nilf|.nilm=>true
@[simp] theorem zzO {k n}:(AV.int k n).isCell=true:=rfl
@[simp] theorem zyj {b}:(AV.bool b).isCell=true:=rfl
@[simp] theorem zzQ {s}:(AV.str s).isCell=true:=rfl
@[simp] theorem zAf:AV.e0.isCell=true:=rfl
@[simp] theorem zAk {s r}:(AV.sl s r).isCell=true:=rfl
@[simp] theorem zAh {s}:(AV.ip s).isCell=true:=rfl
@[simp] theorem zAj {a b c d}:(AV.ms a b c d).isCell=true:=rfl
@[simp] theorem zAi {a b c}:(AV.mp a b c).isCell=true:=rfl
@[simp] theorem zAg {f c}:(AV.fn f c).isCell=true:=rfl
@[simp] theorem zyl {f}:(AV.mapr f).isCell=true:=rfl
@[simp] theorem zyo:AV.nilp.isCell=true:=rfl
@[simp] theorem zym:AV.nilf.isCell=true:=rfl
@[simp] theorem zyn:AV.nilm.isCell=true:=rfl
@[simp] theorem zzN {s}:(AV.agg s).isCell=false:=rfl
@[simp] theorem zzR {s}:(AV.tup s).isCell=false:=rfl
@[simp] theorem zyk:AV.junk.isCell=false:=rfl
@[simp] theorem zzP {b v}:(AV.opt b v).isCell=false:=rfl
mutual
def AV.pure:AV->Bool
|.ms _ _ _ _|.mp _ _ _|.mapr _=>false
|.agg cs|.tup cs|.fn _ cs=>AV.pureL cs
|.opt _ v=>v.pure
|.junk|.int _ _|.bool _|.str _|.e0|.sl _ _|.ip _|.nilp|.nilf|.nilm=>true
def AV.pureL:List AV->Bool
|[]=>true
|c:: cs=>c.pure&&AV.pureL cs
end
@[simp] theorem zBi {k n}:(AV.int k n).pure=true:=by simp[AV.pure]
@[simp] theorem zAE {b}:(AV.bool b).pure=true:=by simp[AV.pure]
@[simp] theorem zBk {s}:(AV.str s).pure=true:=by simp[AV.pure]
@[simp] theorem zBW:AV.e0.pure=true:=by simp[AV.pure]
@[simp] theorem zB1 {s r}:(AV.sl s r).pure=true:=by simp[AV.pure]
@[simp] theorem zBY {s}:(AV.ip s).pure=true:=by simp[AV.pure]
@[simp] theorem zB0 {a b c d}:(AV.ms a b c d).pure=false:=by simp[AV.pure]
@[simp] theorem zBZ {a b c}:(AV.mp a b c).pure=false:=by simp[AV.pure]
@[simp] theorem zBX {f c}:(AV.fn f c).pure=AV.pureL c:=by simp[AV.pure]
@[simp] theorem zAG {f}:(AV.mapr f).pure=false:=by simp[AV.pure]
@[simp] theorem zAJ:AV.nilp.pure=true:=by simp[AV.pure]
@[simp] theorem zAH:AV.nilf.pure=true:=by simp[AV.pure]
@[simp] theorem zAI:AV.nilm.pure=true:=by simp[AV.pure]
@[simp] theorem zBh {s}:(AV.agg s).pure=AV.pureL s:=by simp[AV.pure]
@[simp] theorem zBl {s}:(AV.tup s).pure=AV.pureL s:=by simp[AV.pure]
@[simp] theorem zAF:AV.junk.pure=true:=by simp[AV.pure]
@[simp] theorem zBj {b v}:(AV.opt b v).pure=v.pure:=by simp[AV.pure]
@[simp] theorem zAD:AV.pureL []=true:=by simp[AV.pureL]
@[simp] theorem ziW {c cs}:AV.pureL (c:: cs)=(c.pure&&AV.pureL cs):=by simp[AV.pureL]
theorem AV.pureL_iff:∀(l:List AV),AV.pureL l=true↔∀c∈l,c.pure=true
|[]=>by simp
|c:: cs=>by simp[AV.pureL_iff cs]
def BB:Nat:=1048576
def fnum(f:FuncId):FuncId:=match Nat.blt f BB with
|true=>f
|false=>f-BB
def fargs{α:Type}(f:FuncId)(xs caps:List α):List α:=match Nat.blt f BB with
|true=>xs++caps
|false=>caps++xs
def ERR:FuncId:=2097152
def fnb(f:FuncId)(fst vs:Array Value):Prop:=match Nat.blt f BB with
|true=>fst= #[]
|false=>vs= #[]/\Nat.beq f ERR=false
def erB:Value->Bool->Prop
|.nilIface,b=>b=false
|.iface _ _,b=>b=true
|_,_=>False
inductive Rep (H:Hp):Bt->AV->Value->Prop
|junk {Z v}:Rep H Z .junk v
|int {Z k n}(h:k.min<=n/\n<=k.max):Rep H Z (.int k n) (.int k n)
|bool {Z b}:Rep H Z (.bool b) (.bool b)
|str {Z s}(h:s.length<=BIG):Rep H Z (.str s) (.string ⟨s.toArray⟩)
|agg {Z cs vs}(hl:vs.size=cs.length)(hc:∀c∈cs,AV.isCell c=true)
 (h:∀(i:Nat) c v,cs[i]? =some c->vs[i]? =some v->Rep H Z c v):Rep H Z (.agg cs) (.agg vs)
|tup {Z cs vs}(hl:vs.size=cs.length)
 (h:∀(i:Nat) c v,cs[i]? =some c->vs[i]? =some v->Rep H Z c v):Rep H Z (.tup cs) (.tuple vs)
|e0 {Z a}:Rep H Z .e0 (.slice a 0 0)
|sl {Z es rows a len cap}(b o:Nat)(cells:Array Value)(f:Nat->Nat->Value)
 (hlen:len=rows.length)(hcap:len<=cap)(hbig:len<=BIG)
 (hes:∀r∈rows,List.length r=es)
 (hblk:rows≠[]->a=some ⟨b,o,none⟩/\∃elem fz,H b=some (.cells cells elem fz))
 (hc:∀i j,i<rows.length->j<es->cells[o+i*es+j]? =some (f i j))
 (hcell:∀r∈rows,∀c∈r,AV.isCell c=true)
 (h:∀(i:Nat)(r:List AV)(j:Nat)(c:AV),rows[i]? =some r->r[j]? =some c->Rep H [] c (f i j)):
 Rep H Z (.sl es rows) (.slice a len cap)
|ip {Z cs b o cells elem fz}(f:Nat->Value)(hH:H b=some (.cells cells elem fz))
 (hc:∀j,j<cs.length->cells[o+j]? =some (f j))
 (hcell:∀c∈cs,AV.isCell c=true)
 (h:∀(j:Nat) c,cs[j]? =some c->Rep H [] c (f j)):Rep H Z (.ip cs) (.pointer (some ⟨b,o,none⟩))
|ms {Z i es off len b capT cap}(hβ:Z[i]? =some (some (b,es,capT)))(h:off+cap<=capT)(hlen:len<=cap)(hbig:len<=BIG):
 Rep H Z (.ms i es off len) (.slice (some ⟨b,off*es,none⟩) len cap)
|ms0 {Z i es off a x}(hβ:Z[i]? =some x):Rep H Z (.ms i es off 0) (.slice a 0 0)
|mp {Z i r off b es capT}(hβ:Z[i]? =some (some (b,es,capT))):Rep H Z (.mp i r off) (.pointer (some ⟨b,r*es+off,none⟩))
|fn {Z f cs fst vs}(hb:fnb f fst vs)(hl:(fst++vs).size=cs.length)(h:∀(i:Nat) c v,cs[i]? =some c->(fst++vs)[i]? =some v->Rep H Z c v):
 Rep H Z (.fn f cs) (.func (.func (fnum f)) fst vs)
|er {Z f cs x b}(hf:f=ERR)(hx:erB x b)(hl:cs.length=1)(h:∀(i:Nat) c,cs[i]? =some c->Rep H Z c (.bool b)):Rep H Z (.fn f cs) x
|mapr {Z i b es capT}(hβ:Z[i]? =some (some (b,es,capT))):Rep H Z (.mapr i) (.map (some b))
|nilp {Z}:Rep H Z .nilp (.pointer none)
|nilf {Z}:Rep H Z .nilf .nilFunc
|nili {Z}:Rep H Z .nilf .nilIface
|nilm {Z}:Rep H Z .nilm (.map none)
|opt {Z b v x}(h:b=true->Rep H Z v x):Rep H Z (.opt b v) x
def zgm(H H':Hp):Prop:=∀b o,H b=some o->H' b=some o
def zcY(Z β':Bt):Prop:=∀(i:Nat) x,Z[i]? =some x->β'[i]? =some x
theorem zgm.refl(H:Hp):zgm H H:=fun _ _ h=>h
theorem zcY.refl(Z:Bt):zcY Z Z:=fun _ _ h=>h
theorem zgm.trans{A B C:Hp}(h:zgm A B)(h':zgm B C):zgm A C:=fun b o x=>h' b o (h b o x)
theorem zcY.trans{A B C:Bt}(h:zcY A B)(h':zcY B C):zcY A C:=fun b o x=>h' b o (h b o x)
theorem zcY.append(Z γ:Bt):zcY Z (Z ++ γ):=by intro i x h;have:=(yga.1 h).1;rw[yge this];exact h
theorem Rep.mono{H H':Hp}(hH:zgm H H'){Z:Bt}{v:AV}{x:Value}(r:Rep H Z v x):∀{β':Bt},zcY Z β'->Rep H' β' v x:=by
 induction r with
 |junk=>intros;exact .junk
 |int h=>intros;exact .int h
 |bool=>intros;exact .bool
 |str h=>intros;exact .str h
 |agg hl hc _ ih=>intro β' hb;exact .agg hl hc fun i c v h1 h2=>ih i c v h1 h2 hb
 |tup hl _ ih=>intro β' hb;exact .tup hl fun i c v h1 h2=>ih i c v h1 h2 hb
 |e0=>intros;exact .e0
 |sl b o cells f hlen hcap hbig hes hblk hc hcell _ ih=>intro β' hb;exact .sl b o cells f hlen hcap hbig hes (fun hne=>let⟨h1,e,z,h2⟩:=hblk hne;⟨h1,e,z,hH _ _ h2⟩) hc hcell fun i r j c h1 h2=>ih i r j c h1 h2 (zcY.refl _)
 |ip f hh hc hcell _ ih=>intro β' hb;exact .ip f (hH _ _ hh) hc hcell fun j c h1=>ih j c h1 (zcY.refl _)
 |ms hβ h hlen hbig=>intro β' hb;exact .ms (hb _ _ hβ) h hlen hbig
 |ms0 hβ=>intro β' hb;exact .ms0 (hb _ _ hβ)
 |mp hβ=>intro β' hb;exact .mp (hb _ _ hβ)
 |fn hf hl _ ih=>intro β' hb;exact .fn hf hl fun i c v h1 h2=>ih i c v h1 h2 hb
 |er h1 h2 h3 _ ih=>intro β' hb;exact .er h1 h2 h3 fun i c hi=>ih i c hi hb
 |mapr hβ=>intro β' hb;exact .mapr (hb _ _ hβ)
 |nilp=>intros;exact .nilp
 |nilf=>intros;exact .nilf
 |nili=>intros;exact .nili
 |nilm=>intros;exact .nilm
 |opt _ ih=>intro β' hb;exact .opt fun h=>ih h hb
theorem Rep.pure{H:Hp}{Z:Bt}{v:AV}{x:Value}(r:Rep H Z v x)(hp:v.pure=true)(β':Bt):Rep H β' v x:=by
 induction r with
 |junk=>exact .junk
 |int h=>exact .int h
 |bool=>exact .bool
 |str h=>exact .str h
 |agg hl hc _ ih=>exact .agg hl hc fun i c v h1 h2=>ih i c v h1 h2 ((AV.pureL_iff _).1 (by simpa using hp) c (ygd h1))
 |tup hl _ ih=>exact .tup hl fun i c v h1 h2=>ih i c v h1 h2 ((AV.pureL_iff _).1 (by simpa using hp) c (ygd h1))
 |e0=>exact .e0
 |sl b o cells f hlen hcap hbig hes hblk hc hcell h _=>exact .sl b o cells f hlen hcap hbig hes hblk hc hcell h
 |ip f hh hc hcell h _=>exact .ip f hh hc hcell h
 |ms=>simp at hp
 |ms0=>simp at hp
 |mp=>simp at hp
 |fn hf hl _ ih=>exact .fn hf hl fun i c v h1 h2=>ih i c v h1 h2 ((AV.pureL_iff _).1 (by simpa using hp) c (ygd h1))
 |er h1 h2 h3 _ ih=>exact .er h1 h2 h3 fun i c hi=>ih i c hi ((AV.pureL_iff _).1 (by simpa using hp) c (ygd hi))
 |mapr=>simp at hp
 |nilp=>exact .nilp
 |nilf=>exact .nilf
 |nili=>exact .nili
 |nilm=>exact .nilm
 |opt _ ih=>exact .opt fun h=>ih h (by simpa using hp)
inductive Ent where
|dead
|arr (es:Nat)(rows:List (List AV))
|mp (es:List (AV×AV))
def Ent.live:Ent->Bool
|.dead=>false
|.arr _ _=>true
|.mp _=>true
@[simp] theorem zAq:Ent.dead.live=false:=rfl
@[simp] theorem zBd {e r}:(Ent.arr e r).live=true:=rfl
@[simp] theorem zBR {e}:(Ent.mp e).live=true:=rfl
def bdC(es:Nat)(cells:Array Value):Prop:=es=2/\∃p,cells[0]? =some (.pointer p)
def u8C(cells:Array Value):Prop:=∃n,cells[0]? =some (.int .u8 n)
def okC(es:Nat)(cells:Array Value)(elem:TypeId):Prop:=(bdC es cells->elem=TB/\cells.size=2)/\(u8C cells->elem=T5)
def AV.na:AV->Bool
|.int _ _|.bool _|.str _|.e0|.sl _ _|.ms _ _ _ _|.fn _ _|.nilf|.mapr _|.nilm=>true
|_=>false
def AV.n8:AV->Bool
|.int .u8 _|.junk|.opt _ _=>false
|_=>true
def AV.np(c:AV):Bool:=c.na&&c.n8
def AV.pt:AV->Bool
|.nilp|.mp _ _ _|.ip _=>true
|_=>false
def AV.b8:AV->Bool
|.int .u8 _=>true
|_=>false
def hd1(p:AV->Bool):List AV->Bool
|c:: _=>p c
|[]=>true
abbrev np1(l:List AV):Bool:=hd1 AV.np l
theorem zrh{H:Hp}{Z:Bt}{c:AV}{p:Option Addr}(h:c.na=true)(r:Rep H Z c (.pointer p)):False:=by
 cases r with
 |er _ hx=>exact hx.elim
 |_=>simp[AV.na]at h
theorem zrg{H:Hp}{Z:Bt}{c:AV}{n:Int}(h:c.n8=true)(r:Rep H Z c (.int .u8 n)):False:=by
 cases r with
 |er _ hx=>exact hx.elim
 |_=>simp[AV.n8]at h
theorem zAB{H:Hp}{Z:Bt}{c:AV}{v:Value}(h:c.pt=true)(r:Rep H Z c v):∃p,v=.pointer p:=by cases r<;>first|(simp[AV.pt]at h;done)|exact⟨_,rfl⟩
theorem zz0{H:Hp}{Z:Bt}{c:AV}{v:Value}(h:c.b8=true)(r:Rep H Z c v):∃n,v=.int .u8 n:=by cases r<;>(try(simp[AV.b8]at h;done));rename_i k n _;cases k<;>first|(simp[AV.b8]at h;done)|exact⟨_,rfl⟩
theorem zyg{H:Hp}{Z:Bt}{cells:Array Value}{rows:List (List AV)}{p:AV->Bool}(hn:hd1 p (rows.headD [])=true)(hne:∀r,rows.head? =some r->r≠[])(h0:rows=[]->cells.size=0)
 (h:∀(r:List AV)(c:AV),rows[0]? =some r->r[0]? =some c->∃v,cells[0]? =some v/\Rep H Z c v):∀v,cells[0]? =some v->∃c,p c=true/\Rep H Z c v:=by
 intro v hv;cases rows with
 |nil=>have:=(Array.getElem?_eq_some_iff.1 hv).1;rw[h0 rfl]at this;omega
 |cons r rows=>
  cases r with
  |nil=>exact absurd rfl (hne [] rfl)
  |cons c r=>obtain⟨v',hv',hr⟩:=h (c:: r) c rfl rfl;rw[hv]at hv';cases hv';exact⟨c,hn,hr⟩
theorem zoQ{es:Nat}{H:Hp}{Z:Bt}{cells:Array Value}{elem:TypeId}(h:∀v,cells[0]? =some v->∃c,AV.np c=true/\Rep H Z c v):okC es cells elem:=by
 constructor
 ·rintro⟨_,p,hp⟩;obtain⟨c,h1,h2⟩:=h _ hp;unfold AV.np at h1;rw[yhb]at h1;exact(zrh h1.1 h2).elim
 ·rintro⟨n,hp⟩;obtain⟨c,h1,h2⟩:=h _ hp;unfold AV.np at h1;rw[yhb]at h1;exact(zrg h1.2 h2).elim
theorem zxu{es:Nat}{H:Hp}{Z:Bt}{cells:Array Value}{elem:TypeId}(h2:es≠2\/elem=TB/\cells.size=2)(h:∀v,cells[0]? =some v->∃c,AV.n8 c=true/\Rep H Z c v):okC es cells elem:=by
 constructor
 ·rintro⟨hs,_⟩;exact h2.elim (fun h=>absurd hs h) id
 ·rintro⟨n,hp⟩;obtain⟨c,h1,h2⟩:=h _ hp;exact(zrg h1 h2).elim
theorem zxv{es:Nat}{H:Hp}{Z:Bt}{cells:Array Value}{elem:TypeId}(he:elem=T5)(h:∀v,cells[0]? =some v->∃c,AV.na c=true/\Rep H Z c v):okC es cells elem:=by refine⟨?_,fun _=>he⟩;rintro⟨_,p,hp⟩;obtain⟨c,h1,h2⟩:=h _ hp;exact(zrh h1 h2).elim
def EntOk(H:Hp)(Z:Bt)(w:World):Ent->Option (Nat×Nat×Nat)->Prop
|.dead,_=>True
|.arr _ rows,none=>rows=[]
|.arr es rows,some (b,es',cap)=>es'=es/\∃cells elem,w.heap[b]? =some (.cells cells elem (0,0))/\cells.size=cap*es/\rows.length<=cap/\
 (∀r∈rows,r.length=es)/\(∀r∈rows,∀c∈r,c.isCell=true)/\
 (∀(i:Nat)(r:List AV)(j:Nat)(c:AV),rows[i]? =some r->r[j]? =some c->∃v,cells[i*es+j]? =some v/\Rep H Z c v)/\(rows≠[]->okC es cells elem)
|.mp _,none=>False
|.mp es,some (b,_,_)=>∃ents clock,w.heap[b]? =some (.map ents clock)/\ents.size=es.length/\
 ∀(i:Nat) k v e,es[i]? =some (k,v)->ents[i]? =some e->Rep H Z k e.key/\Rep H Z v e.val
structure Fr where
 h:Hp
 w0:World
instance:CoeFun Fr (fun _=>Nat->Option Obj):=⟨Fr.h⟩
structure Same (F:Fr)(w:World):Prop where
 os:w.os=F.w0.os
 tape:w.tape=F.w0.tape
 output:w.output=F.w0.output
 size:F.w0.heap.size<=w.heap.size
def GH(H:Hp):Prop:=∀w:World,(∀b o,H b=some o->w.heap[b]? =some o)->GW w
theorem GH.mono{H H':Hp}(h:GH H)(hx:∀b o,H b=some o->H' b=some o):GH H':=fun w hw=>h w fun b o e=>hw b o (hx b o e)
structure Sat (H:Hp)(F:Fr)(Z:Bt)(mem:List Ent)(w:World):Prop where
 hH:∀b o,H b=some o->w.heap[b]? =some o
 gh:GH H
 hF:∀b o,F b=some o->w.heap[b]? =some o
 sm:Same F w
 hl:Z.length=mem.length
 ent:∀(i:Nat) e x,mem[i]? =some e->Z[i]? =some x->EntOk H Z w e x
 apart:∀(i:Nat) e x,mem[i]? =some e->e.live=true->Z[i]? =some (some x)->H x.1=none/\F x.1=none
 inj:∀(i j:Nat) e e' x y,mem[i]? =some e->e.live=true->mem[j]? =some e'->e'.live=true->Z[i]? =some (some x)->Z[j]? =some (some y)->x.1=y.1->i=j
@[simp] def look:List (Nat×AV)->Nat->AV
|[],_=>.junk
| (m,v):: r,n=>if m=n then v else look r n
structure St where
 env:List (Nat×AV)
 mem:List Ent
structure Rel (H:Hp)(F:Fr)(Z:Bt)(N:Nat)(st:St)(a:Act)(w:World):Prop where
 defers:a.defers=[]
 size:a.tmps.size=N
 env:∀n,Rep H Z (look st.env n) (a.tmps.getD n undef)
 sat:Sat H F Z st.mem w
theorem Rel.put{H H':Hp}{F:Fr}{Z β':Bt}{N:Nat}{st:St}{a:Act}{w w':World}{v:AV}{x:Value}{m':List Ent}{d:Nat}
 (h:Rel H F Z N st a w)(hH:zgm H H')(hβ:zcY Z β')(hd:d<N)(hv:Rep H' β' v x)(hs:Sat H' F β' m' w'):
 Rel H' F β' N ⟨(d,v):: st.env,m'⟩ (a.put (some d) x) w':=by
 refine⟨h.defers,by simp[Act.put,h.size],fun n=>?_,hs⟩;simp only[look,Act.put];by_cases e:d=n
 ·subst e;simp[h.size,hd];exact hv
 ·simp only[e,if_false];have:=(h.env n).mono hH hβ;simpa[Array.getElem?_setIfInBounds_ne e]using this
theorem Rel.put_none{H H':Hp}{F:Fr}{Z β':Bt}{N:Nat}{st:St}{a:Act}{w w':World}{x:Value}{m':List Ent}
 (h:Rel H F Z N st a w)(hH:zgm H H')(hβ:zcY Z β')(hs:Sat H' F β' m' w'):
 Rel H' F β' N ⟨st.env,m'⟩ (a.put none x) w':=
 ⟨h.defers,h.size,fun n=>(h.env n).mono hH hβ,hs⟩
end Go.Fw
namespace Go.Fw
open Go
section steps
variable {P:Program}{b:Frame}{a:Act}{k:List Item}{cs:List Frame}{w w':World}{ops:Array Oper}{i:Nat}{rest:List Nat}{o:Oper}
theorem zih{x:Value}(ho:ops[i]? =some o)(hw:Region.wanted o (yielded ops a.tmps)=true)
 (hr:(execOp a.eval o).run P w=.ok (.value x) w'):
 step P (lone (b.at a (.inRegion ops (i:: rest):: k)) cs w)=.next (lone (b.at (a.put o.dst x) (.inRegion ops rest:: k)) cs w'):=by
 have hg:=stepG_op (P:=P) (b:=b) (k:=k) (cs:=cs) (w:=w) (rest:=rest) ho hw;have hf:=Frame.finish_at b a ops i rest k x;rw[ho]at hf;refine step_lone_go ?_;rw[hg];simp only[stepG.apply,Sem.runT_eq,hr,GStep.bare_after];exact congrArg (fun fr=>GStep.go {frame:=fr,callers:=cs,status:=.running,dying:=none} w') hf
theorem zlb(ho:ops[i]? =some o)(hw:Region.wanted o (yielded ops a.tmps)=true)
 (hr:(execOp a.eval o).run P w=.ok .skip w'):
 step P (lone (b.at a (.inRegion ops (i:: rest):: k)) cs w)=.next (lone (b.at (a.put o.dst undef) (.inRegion ops rest:: k)) cs w'):=by
 have hg:=stepG_op (P:=P) (b:=b) (k:=k) (cs:=cs) (w:=w) (rest:=rest) ho hw;have hf:=Frame.finish_at b a ops i rest k undef;rw[ho]at hf;refine step_lone_go ?_;rw[hg];simp only[stepG.apply,Sem.runT_eq,hr,GStep.bare_after];exact congrArg (fun fr=>GStep.go {frame:=fr,callers:=cs,status:=.running,dying:=none} w') hf
theorem zhc(ho:ops[i]? =some o)(hw:Region.wanted o (yielded ops a.tmps)=false):
 step P (lone (b.at a (.inRegion ops (i:: rest):: k)) cs w)=.next (lone (b.at (a.put o.dst undef) (.inRegion ops rest:: k)) cs w):=by
 have hs:=step_op_skip (P:=P) (b:=b) (a:=a) (k:=k) (cs:=cs) (w:=w) (ops:=ops) (i:=i) (rest:=rest) (by simp[ho,hw]);simpa[ho]using hs
theorem zgG{f:FuncId}{args:Array Value}{R:Ending->World->Prop}(ho:ops[i]? =some o)(hw:Region.wanted o (yielded ops a.tmps)=true)
 (hr:(execOp a.eval o).run P w=.ok (.enter f args) w')(hc:Calls P f args w' R)(hR:∀e w'',R e w''->∃v,e=.returned v):
 ∃v w'',R (.returned v) w''/\Steps P (lone (b.at a (.inRegion ops (i:: rest):: k)) cs w) (lone (b.at (a.put o.dst v) (.inRegion ops rest:: k)) cs w''):=by
 obtain⟨e,w'',fr,h,hsteps,_,hleave⟩:=hc (b.at a (.inRegion ops (i:: rest):: k):: cs);obtain⟨v,rfl⟩:=hR _ _ h;have hg:=stepG_op (P:=P) (b:=b) (k:=k) (cs:=cs) (w:=w) (rest:=rest) ho hw;have henter:step P (lone (b.at a (.inRegion ops (i:: rest):: k)) cs w) =
  .next (lone (Frame.enter P f args .normal) (b.at a (.inRegion ops (i:: rest):: k):: cs) w'):=
  step_lone_go (by rw[hg];simp[stepG.apply,hr,Frame.at])
 have hf:=Frame.finish_at b a ops i rest k v;rw[ho]at hf;refine⟨v,w'',h,.head henter (hsteps.trans (.one ?_))⟩;have:=step_leave_returned (P:=P) (c:=b.at a (.inRegion ops (i:: rest):: k)) (cs:=cs) hleave;rw[hf]at this;exact this
end steps
inductive Ar where
|t (n:Nat)
|c (v:AV)
def ar(env:List (Nat×AV)):Ar->AV
|.t n=>look env n
|.c v=>v
@[simp] theorem zzX {env:List (Nat×AV)}{n:Nat}:ar env (.t n)=look env n:=rfl
@[simp] theorem zD5 {env:List (Nat×AV)}{v:AV}:ar env (.c v)=v:=rfl
mutual
def zaE:AV->Value->Bool
|.int k n,.int k' n'=>k==k'&&n==n'&&decide (k.min<=n/\n<=k.max)
|.bool b,.bool b'=>b==b'
|.str s,.string t=>s==t.data.toList&&decide (s.length<=BIG)
|.e0,.slice _ 0 0=>true
|.sl _ [],.slice _ 0 0=>true
|.nilp,.pointer none=>true
|.nilf,.nilFunc=>true
|.nilf,.nilIface=>true
|.nilm,.map none=>true
|.agg cs,.agg vs=>zcJ cs vs.toList
|.fn f [],.func (.func g) fst vs=>Nat.blt f BB&&f==g&&fst.size==0&&vs.size==0
|_,_=>false
def zcJ:List AV->List Value->Bool
|[],[]=>true
|c:: cs,v:: vs=>c.isCell&&zaE c v&&zcJ cs vs
|_,_=>false
end
mutual
theorem zeI(H:Hp)(Z:Bt):∀(c:AV)(v:Value),zaE c v=true->Rep H Z c v
|.int k n,.int k' n',h=>by simp only[zaE,yhb,yhe,yhc]at h;obtain⟨⟨rfl,rfl⟩,h⟩:=h;exact .int h
|.bool b,.bool b',h=>by simp only[zaE,yhe]at h;subst h;exact .bool
|.str s,.string t,h=>by
 simp only[zaE,yhb,yhe,yhc]at h;obtain⟨rfl,h⟩:=h;have:(.string t:Value)=.string ⟨t.data.toList.toArray⟩:=by cases t;simp
 rw[this];exact .str h
|.e0,.slice a 0 0,_=>.e0
|.e0,.slice a (_+1) _,h=>by simp[zaE]at h
|.e0,.slice a 0 (_+1),h=>by simp[zaE]at h
|.sl es [],.slice a 0 0,_=>.sl 0 0 #[] (fun _ _=>undef) rfl (Nat.le_refl _) (Nat.zero_le _) (by simp) (by simp) (by simp) (by simp) (by simp)
|.sl es [],.slice a (_+1) _,h=>by simp[zaE]at h
|.sl es [],.slice a 0 (_+1),h=>by simp[zaE]at h
|.nilp,.pointer none,_=>.nilp
|.nilp,.pointer (some _),h=>by simp[zaE]at h
|.nilf,.nilFunc,_=>.nilf
|.nilf,.nilIface,_=>.nili
|.nilm,.map none,_=>.nilm
|.nilm,.map (some _),h=>by simp[zaE]at h
|.agg cs,.agg vs,h=>by simp only[zaE]at h;obtain⟨h1,h2,h3⟩:=zbE H Z cs vs.toList h;exact .agg (by simpa using h1.symm) h2 fun i c v hc hv=>h3 i c v hc (by simpa using hv)
|.fn f [],.func (.func g) fst vs,h=>by simp only[zaE,yhb,yhe]at h;obtain⟨⟨⟨hb,rfl⟩,h1⟩,h2⟩:=h;obtain rfl:fst= #[]:=Array.eq_empty_of_size_eq_zero h1;have:=Rep.fn (H:=H) (Z:=Z) (f:=f) (cs:=[]) (fst:=#[]) (vs:=vs) (by unfold fnb;rw[hb]) (by simpa using h2) (by simp);rwa [show fnum f=f by unfold fnum;rw[hb]]at this
|.fn f (_:: _),v,h=>by cases v<;>simp[zaE]at h
|.sl _ (_:: _),v,h|.junk,v,h|.tup _,v,h|.ip _,v,h|.ms ..,v,h|.mp ..,v,h|.mapr _,v,h|.opt _ _,v,h=>by cases v<;>simp[zaE]at h
|.int k n,.bool _,h|.int k n,.float ..,h|.int k n,.complex ..,h|.int k n,.string _,h|.int k n,.pointer _,h|.int k n,.slice ..,h
|.int k n,.map _,h|.int k n,.chan _,h|.int k n,.func ..,h|.int k n,.nilFunc,h|.int k n,.iface ..,h|.int k n,.nilIface,h
|.int k n,.agg _,h|.int k n,.tuple _,h=>by simp[zaE]at h
|.bool k,.int ..,h|.bool k,.float ..,h|.bool k,.complex ..,h|.bool k,.string _,h|.bool k,.pointer _,h|.bool k,.slice ..,h
|.bool k,.map _,h|.bool k,.chan _,h|.bool k,.func ..,h|.bool k,.nilFunc,h|.bool k,.iface ..,h|.bool k,.nilIface,h
|.bool k,.agg _,h|.bool k,.tuple _,h=>by simp[zaE]at h
|.str k,.int ..,h|.str k,.float ..,h|.str k,.complex ..,h|.str k,.bool _,h|.str k,.pointer _,h|.str k,.slice ..,h
|.str k,.map _,h|.str k,.chan _,h|.str k,.func ..,h|.str k,.nilFunc,h|.str k,.iface ..,h|.str k,.nilIface,h
|.str k,.agg _,h|.str k,.tuple _,h=>by simp[zaE]at h
|.sl _ [],.int ..,h|.sl _ [],.float ..,h|.sl _ [],.complex ..,h|.sl _ [],.bool _,h|.sl _ [],.pointer _,h|.sl _ [],.string ..,h
|.sl _ [],.map _,h|.sl _ [],.chan _,h|.sl _ [],.func ..,h|.sl _ [],.nilFunc,h|.sl _ [],.iface ..,h|.sl _ [],.nilIface,h
|.sl _ [],.agg _,h|.sl _ [],.tuple _,h=>by simp[zaE]at h
|.e0,.int ..,h|.e0,.float ..,h|.e0,.complex ..,h|.e0,.bool _,h|.e0,.pointer _,h|.e0,.string ..,h
|.e0,.map _,h|.e0,.chan _,h|.e0,.func ..,h|.e0,.nilFunc,h|.e0,.iface ..,h|.e0,.nilIface,h
|.e0,.agg _,h|.e0,.tuple _,h=>by simp[zaE]at h
|.nilp,.int ..,h|.nilp,.float ..,h|.nilp,.complex ..,h|.nilp,.bool _,h|.nilp,.slice ..,h|.nilp,.string ..,h
|.nilp,.map _,h|.nilp,.chan _,h|.nilp,.func ..,h|.nilp,.nilFunc,h|.nilp,.iface ..,h|.nilp,.nilIface,h
|.nilp,.agg _,h|.nilp,.tuple _,h=>by simp[zaE]at h
|.nilf,.int ..,h|.nilf,.float ..,h|.nilf,.complex ..,h|.nilf,.bool _,h|.nilf,.slice ..,h|.nilf,.string ..,h
|.nilf,.map _,h|.nilf,.chan _,h|.nilf,.func ..,h|.nilf,.pointer _,h|.nilf,.iface ..,h
|.nilf,.agg _,h|.nilf,.tuple _,h=>by simp[zaE]at h
|.nilm,.int ..,h|.nilm,.float ..,h|.nilm,.complex ..,h|.nilm,.bool _,h|.nilm,.slice ..,h|.nilm,.string ..,h
|.nilm,.pointer _,h|.nilm,.chan _,h|.nilm,.func ..,h|.nilm,.nilFunc,h|.nilm,.iface ..,h|.nilm,.nilIface,h
|.nilm,.agg _,h|.nilm,.tuple _,h=>by simp[zaE]at h
|.agg k,.int ..,h|.agg k,.float ..,h|.agg k,.complex ..,h|.agg k,.bool _,h|.agg k,.slice ..,h|.agg k,.string ..,h
|.agg k,.pointer _,h|.agg k,.chan _,h|.agg k,.func ..,h|.agg k,.nilFunc,h|.agg k,.iface ..,h|.agg k,.nilIface,h
|.agg k,.map _,h|.agg k,.tuple _,h=>by simp[zaE]at h
|.fn f [],.int ..,h|.fn f [],.float ..,h|.fn f [],.complex ..,h|.fn f [],.bool _,h|.fn f [],.slice ..,h|.fn f [],.string ..,h
|.fn f [],.pointer _,h|.fn f [],.chan _,h|.fn f [],.nilFunc,h|.fn f [],.iface ..,h|.fn f [],.nilIface,h
|.fn f [],.map _,h|.fn f [],.tuple _,h|.fn f [],.agg _,h|.fn f [],.func (.method _) _ _,h|.fn f [],.func (.methodOf _ _) _ _,h
|.fn f [],.func (.via _ _ _ _) _ _,h|.fn f [],.func (.yield _) _ _,h=>by simp[zaE]at h
theorem zbE(H:Hp)(Z:Bt):∀(cs:List AV)(vs:List Value),zcJ cs vs=true->
 cs.length=vs.length/\(∀c∈cs,c.isCell=true)/\∀(i:Nat) c v,cs[i]? =some c->vs[i]? =some v->Rep H Z c v
 |[],[],_=>by simp
 |c:: cs,v:: vs,h=>by
  simp only[zcJ,yhb]at h;obtain⟨⟨hc,h1⟩,h2⟩:=h;obtain⟨h3,h4,h5⟩:=zbE H Z cs vs h2;refine⟨by simp[h3],by simpa[hc]using h4,fun i c' v' hi hv=>?_⟩;cases i with
  |zero=>simp at hi hv;subst hi;subst hv;exact zeI H Z _ _ h1
  |succ i=>exact h5 i c' v' (by simpa using hi) (by simpa using hv)
 |[],_:: _,h|_:: _,[],h=>by simp[zcJ]at h
end
theorem zrG:∀(v:Value),zaE .e0 v=true->∃a,v=.slice a 0 0
|.slice a 0 0,_=>⟨a,rfl⟩
|.slice a (_+1) _,h=>by simp[zaE]at h
|.slice a 0 (_+1),h=>by simp[zaE]at h
|.int ..,h|.float ..,h|.complex ..,h|.bool _,h|.pointer _,h|.string ..,h
|.map _,h|.chan _,h|.func ..,h|.nilFunc,h|.iface ..,h|.nilIface,h
|.agg _,h|.tuple _,h=>by simp[zaE]at h
theorem zji:∀(cs:List AV)(vs:List Value),zcJ cs vs=true->cs.length=vs.length/\(∀c∈cs,c.isCell=true)/\∀(i:Nat) c v,cs[i]? =some c->vs[i]? =some v->zaE c v=true
|[],[],_=>by simp
|c:: cs,v:: vs,h=>by
 simp only[zcJ,yhb]at h;obtain⟨⟨hc,h1⟩,h2⟩:=h;obtain⟨h3,h4,h5⟩:=zji cs vs h2;refine⟨by simp[h3],by simpa[hc]using h4,fun i c' v' hi hv=>?_⟩;cases i with
 |zero=>simp at hi hv;subst hi;subst hv;exact h1
 |succ i=>exact h5 i c' v' (by simpa using hi) (by simpa using hv)
|[],_:: _,h|_:: _,[],h=>by simp[zcJ]at h
def zah:Ar->Operand->Bool
|.t n,.tmp m=>n==m
|.c v,.const x=>zaE v x
|.c (.fn f []),.func g=>Nat.blt f BB&&f==g
|_,_=>false
theorem Rel.ar{H:Hp}{F:Fr}{Z:Bt}{N:Nat}{st:St}{a:Act}{w:World}(h:Rel H F Z N st a w){x:Ar}{y:Operand}(hc:zah x y=true):
 Rep H Z (ar st.env x) (a.eval y):=by
 cases x with
 |t n=>cases y<;>simp[zah]at hc;subst hc;exact h.env n
 |c v=>
  cases y with
  |const x=>
   have hc':zaE v x=true:=by simpa[zah]using hc
   exact zeI _ _ v x hc'
  |func g=>
   cases v<;>simp[zah]at hc;rename_i f cs;cases cs with
   |nil=>simp only[zah,yhb,yhe]at hc;obtain⟨hb,rfl⟩:=hc;have:=Rep.fn (H:=H) (Z:=Z) (f:=f) (cs:=[]) (fst:=#[]) (vs:=#[]) (by unfold fnb;rw[hb]) (by simp) (by simp);rwa [show fnum f=f by unfold fnum;rw[hb]]at this
   |cons _ _=>simp[zah]at hc
  |tmp _=>simp[zah]at hc
  |global _=>simp[zah]at hc
end Go.Fw
namespace Go.Fw
open Go
def zgb(H:Hp)(b:Nat)(o:Obj):Hp:=fun b'=>if b'=b then some o else H b'
theorem zdt{H:Hp}{b:Nat}{o:Obj}(h:H b=none):zgm H (zgb H b o):=by
 intro c x hx;unfold zgb;split
 ·rename_i e;subst e;rw[h]at hx;cases hx
 ·exact hx
def HX(F:Fr)(H H':Hp):Prop:=zgm H H'/\∀b o,H' b=some o->H b=some o\/F b=none
theorem HX.refl(F:Fr)(H:Hp):HX F H H:=⟨.refl _,fun _ _ h=>.inl h⟩
theorem HX.trans{F:Fr}{A B C:Hp}(h:HX F A B)(h':HX F B C):HX F A C:=
 ⟨h.1.trans h'.1,fun b o x=>by rcases h'.2 b o x with y|y;exact h.2 b o y;exact .inr y⟩
theorem ziw{F:Fr}{H:Hp}{b:Nat}{o:Obj}(h:H b=none/\F b=none):HX F H (zgb H b o):=by
 refine⟨zdt h.1,fun c x hx=>?_⟩;unfold zgb at hx;split at hx
 ·rename_i e;subst e;exact .inr h.2
 ·exact .inl hx
theorem zaT{w:World}{b:Nat}{o:Obj}(h:w.heap[b]? =some o):b<w.heap.size:=(Array.getElem?_eq_some_iff.1 h).1
section
variable {H H':Hp}{F:Fr}{Z β':Bt}{mem:List Ent}{w w':World}
theorem EntOk.mono{e:Ent}{x:Option (Nat×Nat×Nat)}(h:EntOk H Z w e x)(hH:zgm H H')(hβ:zcY Z β')
 (hw:∀b es cap,x=some (b,es,cap)->e.live=true->w'.heap[b]? =w.heap[b]?):EntOk H' β' w' e x:=by
 cases e with
 |dead=>trivial
 |arr es rows=>
  cases x with
  |none=>exact h
  |some x=>
   obtain⟨b,es',cap⟩:=x;obtain⟨h1,cells,elem,h2,h3,h4,h5,h6,h7,h8⟩:=h;refine⟨h1,cells,elem,?_,h3,h4,h5,h6,fun i r j c hr hc=>?_,h8⟩
   ·rw[hw b es' cap rfl rfl];exact h2
   ·obtain⟨v,hv,hrep⟩:=h7 i r j c hr hc;exact⟨v,hv,hrep.mono hH hβ⟩
 |mp es=>
  cases x with
  |none=>exact h
  |some x=>
   obtain⟨b,es',cap⟩:=x;obtain⟨ents,clock,h2,h3,h4⟩:=h;refine⟨ents,clock,?_,h3,fun i k v e hi he=>?_⟩
   ·rw[hw b es' cap rfl rfl];exact h2
   ·obtain⟨r1,r2⟩:=h4 i k v e hi he;exact⟨r1.mono hH hβ,r2.mono hH hβ⟩
theorem EntOk.lt{e:Ent}{b es cap:Nat}(h:EntOk H Z w e (some (b,es,cap)))(hl:e.live=true):b<w.heap.size:=by
 cases e with
 |dead=>simp at hl
 |arr es rows=>obtain⟨_,cells,elem,h2,_⟩:=h;exact zaT h2
 |mp es=>obtain⟨ents,clock,h2,_⟩:=h;exact zaT h2
theorem Sat.none_at_size(h:Sat H F Z mem w):H w.heap.size=none/\F w.heap.size=none:=by
 constructor
 ·cases e:H w.heap.size with
  |none=>rfl
  |some o=>exact absurd (zaT (h.hH _ _ e)) (by omega)
 ·cases e:F w.heap.size with
  |none=>rfl
  |some o=>exact absurd (zaT (h.hF _ _ e)) (by omega)
theorem Sat.of_heap(h:Sat H F Z mem w)(hw:w'.heap=w.heap)(ho:w'.os=w.os/\w'.tape=w.tape/\w'.output=w.output):Sat H F Z mem w':=
 {hH:=fun b o x=>by rw[hw];exact h.hH b o x
  gh:=h.gh
  hF:=fun b o x=>by rw[hw];exact h.hF b o x
  sm:=⟨ho.1.trans h.sm.os,ho.2.1.trans h.sm.tape,ho.2.2.trans h.sm.output,hw ▸ h.sm.size⟩
  hl:=h.hl
  ent:=fun i e x hi hx=>(h.ent i e x hi hx).mono (zgm.refl _) (zcY.refl _) fun _ _ _ _ _=>by rw[hw]
  apart:=h.apart
  inj:=h.inj}
theorem Sat.alloc_pub(h:Sat H F Z mem w)(o:Obj):Sat (zgb H w.heap.size o) F Z mem (w.alloc o):=by
 have hn:=h.none_at_size;refine{hH:=fun b o' x=>?_,gh:=h.gh.mono (zdt hn.1),hF:=fun b o' x=>?_,sm:=⟨h.sm.os,h.sm.tape,h.sm.output,Nat.le_trans h.sm.size (by simp only[World.alloc,Array.size_push];omega)⟩,hl:=h.hl,ent:=fun i e x hi hx=>?_,apart:=fun i e x hi he hx=>?_,inj:=h.inj}
 ·unfold zgb at x;split at x
  ·rename_i e;subst e;cases x;exact heap_alloc_new w o
  ·rw[heap_alloc_old w o b (zaT (h.hH _ _ x))];exact h.hH _ _ x
 ·rw[heap_alloc_old w o b (zaT (h.hF _ _ x))];exact h.hF _ _ x
 ·refine(h.ent i e x hi hx).mono (zdt hn.1) (zcY.refl _) fun b es cap hxe hl=>?_;subst hxe;exact heap_alloc_old w o b ((h.ent i e _ hi hx).lt hl)
 ·have:=h.apart i e x hi he hx;refine⟨?_,this.2⟩;unfold zgb;split
  ·rename_i e';have:=(h.ent i e _ hi hx).lt (b:=x.1) (es:=x.2.1) (cap:=x.2.2) he;omega
  ·exact this.1
theorem Sat.alloc_own(h:Sat H F Z mem w){cells:Array Value}{elem:TypeId}{es cap:Nat}{rows:List (List AV)}
 (h3:cells.size=cap*es)(h4:rows.length<=cap)(h5:∀r∈rows,r.length=es)(h6:∀r∈rows,∀c∈r,c.isCell=true)
 (h7:∀(i:Nat)(r:List AV)(j:Nat)(c:AV),rows[i]? =some r->r[j]? =some c->∃v,cells[i*es+j]? =some v/\Rep H Z c v)(hbd:rows≠[]->okC es cells elem):
 Sat H F (Z++[some (w.heap.size,es,cap)]) (mem++[.arr es rows]) (w.alloc (.cells cells elem)):=by
 have hn:=h.none_at_size;have hB:=zcY.append Z [some (w.heap.size,es,cap)];have old:∀(i:Nat)(e:Ent),(mem++[Ent.arr es rows])[i]? =some e->(i<mem.length/\mem[i]? =some e)\/(i=mem.length/\e=.arr es rows):=by
  intro i e hi;rw[List.getElem?_append]at hi;split at hi
  ·exact .inl ⟨by assumption,hi⟩
  ·rename_i hlt;have:i-mem.length=0:=by have:=(yga.1 hi).1;simp at this;omega
   rw[this]at hi;simp at hi;exact .inr ⟨by omega,hi.symm⟩
 have oldβ:∀i x,(Z++[some (w.heap.size,es,cap)])[i]? =some x->(i<mem.length->Z[i]? =some x)/\(i=mem.length->x=some (w.heap.size,es,cap)):=by
  intro i x hi;rw[<-h.hl];constructor
  ·intro hlt;rw[yge hlt]at hi;exact hi
  ·intro he;subst he;simp at hi;exact hi.symm
 refine{hH:=fun b o' x=>?_,gh:=h.gh,hF:=fun b o' x=>?_,sm:=⟨h.sm.os,h.sm.tape,h.sm.output,Nat.le_trans h.sm.size (by simp only[World.alloc,Array.size_push];omega)⟩,hl:=by simp[h.hl],ent:=fun i e x hi hx=>?_,apart:=fun i e x hi he hx=>?_,inj:=fun i j e e' x y hi he hj he' hx hy hxy=>?_}
 ·rw[heap_alloc_old w _ b (zaT (h.hH _ _ x))];exact h.hH _ _ x
 ·rw[heap_alloc_old w _ b (zaT (h.hF _ _ x))];exact h.hF _ _ x
 ·rcases old i e hi with⟨hlt,hi'⟩|⟨hlt,rfl⟩
  ·have hx':=(oldβ i x hx).1 hlt;refine(h.ent i e x hi' hx').mono (zgm.refl _) hB fun b es cap hxe hl=>?_;subst hxe;exact heap_alloc_old w _ b ((h.ent i e _ hi' hx').lt hl)
  ·have hx':=(oldβ i x hx).2 hlt;subst hx';refine⟨rfl,cells,elem,heap_alloc_new w _,h3,h4,h5,h6,fun i r j c hr hc=>?_,hbd⟩;obtain⟨v,hv,hrep⟩:=h7 i r j c hr hc;exact⟨v,hv,hrep.mono (zgm.refl _) hB⟩
 ·rcases old i e hi with⟨hlt,hi'⟩|⟨hlt,rfl⟩
  ·exact h.apart i e x hi' he ((oldβ i _ hx).1 hlt)
  ·have hx':=(oldβ i _ hx).2 hlt;cases hx';exact hn
 ·rcases old i e hi with⟨hlt,hi'⟩|⟨hlt,rfl⟩<;>rcases old j e' hj with⟨hlt',hj'⟩|⟨hlt',rfl⟩
  ·exact h.inj i j e e' x y hi' he hj' he' ((oldβ i _ hx).1 hlt) ((oldβ j _ hy).1 hlt') hxy
  ·have h1:=(oldβ i _ hx).1 hlt;have h2:=(oldβ j _ hy).2 hlt';cases h2;have:=(h.ent i e _ hi' h1).lt (b:=x.1) (es:=x.2.1) (cap:=x.2.2) he;simp at hxy;omega
  ·have h1:=(oldβ j _ hy).1 hlt';have h2:=(oldβ i _ hx).2 hlt;cases h2;have:=(h.ent j e' _ hj' h1).lt (b:=y.1) (es:=y.2.1) (cap:=y.2.2) he';simp at hxy;omega
  ·omega
theorem Sat.own_none(h:Sat H F Z mem w)(es:Nat):Sat H F (Z++[none]) (mem++[.arr es []]) w:=by
 have hB:=zcY.append Z [none];have old:∀(i:Nat)(e:Ent),(mem++[Ent.arr es []])[i]? =some e->(i<mem.length/\mem[i]? =some e)\/(i=mem.length/\e=.arr es []):=by
  intro i e hi;rw[List.getElem?_append]at hi;split at hi
  ·exact .inl ⟨by assumption,hi⟩
  ·rename_i hlt;have:i-mem.length=0:=by have:=(yga.1 hi).1;simp at this;omega
   rw[this]at hi;simp at hi;exact .inr ⟨by omega,hi.symm⟩
 have oldβ:∀i x,(Z++[none])[i]? =some x->(i<mem.length->Z[i]? =some x)/\(i=mem.length->x=none):=by
  intro i x hi;rw[<-h.hl];constructor
  ·intro hlt;rw[yge hlt]at hi;exact hi
  ·intro he;subst he;simp at hi;exact hi.symm
 refine{hH:=h.hH,gh:=h.gh,hF:=h.hF,sm:=h.sm,hl:=by simp[h.hl],ent:=fun i e x hi hx=>?_,apart:=fun i e x hi he hx=>?_,inj:=fun i j e e' x y hi he hj he' hx hy hxy=>?_}
 ·rcases old i e hi with⟨hlt,hi'⟩|⟨hlt,rfl⟩
  ·exact(h.ent i e x hi' ((oldβ i x hx).1 hlt)).mono (zgm.refl _) hB fun _ _ _ _ _=>rfl
  ·have hx':=(oldβ i x hx).2 hlt;subst hx';rfl
 ·rcases old i e hi with⟨hlt,hi'⟩|⟨hlt,rfl⟩
  ·exact h.apart i e x hi' he ((oldβ i _ hx).1 hlt)
  ·have hx':=(oldβ i _ hx).2 hlt;cases hx'
 ·rcases old i e hi with⟨hlt,hi'⟩|⟨hlt,rfl⟩
  ·rcases old j e' hj with⟨hlt',hj'⟩|⟨hlt',rfl⟩
   ·exact h.inj i j e e' x y hi' he hj' he' ((oldβ i _ hx).1 hlt) ((oldβ j _ hy).1 hlt') hxy
   ·have h2:=(oldβ j _ hy).2 hlt';cases h2
  ·have h2:=(oldβ i _ hx).2 hlt;cases h2
theorem Sat.kill(h:Sat H F Z mem w)(i:Nat):Sat H F Z (mem.set i .dead) w:=by
 have get:∀(j:Nat)(e:Ent),(mem.set i Ent.dead)[j]? =some e->e.live=true->mem[j]? =some e:=by
  intro j e hj he;rw[List.getElem?_set]at hj;split at hj
  ·split at hj
   ·cases hj;simp at he
   ·cases hj
  ·exact hj
 refine{hH:=h.hH,gh:=h.gh,hF:=h.hF,sm:=h.sm,hl:=by simp[h.hl],ent:=fun j e x hj hx=>?_,apart:=fun j e x hj he hx=>h.apart j e x (get j e hj he) he hx,inj:=fun j k e e' x y hj he hk he' hx hy hxy=>h.inj j k e e' x y (get j e hj he) he (get k e' hk he') he' hx hy hxy};by_cases hl:e.live=true
 ·exact h.ent j e x (get j e hj hl) hx
 ·cases e with
  |dead=>trivial
  |arr _ _=>simp at hl
  |mp _=>simp at hl
end
def zlv(w:World)(b:Nat)(o:Obj):World:={w with heap:=w.heap.setIfInBounds b o}
theorem zk8{w:World}{b:Nat}{o:Obj}(h:b<w.heap.size):(zlv w b o).heap[b]? =some o:=by simp[zlv,h]
theorem zdn{w:World}{b c:Nat}{o:Obj}(h:c≠b):(zlv w b o).heap[c]? =w.heap[c]?:=by simp[zlv,Array.getElem?_setIfInBounds_ne (Ne.symm h)]
section
variable {H:Hp}{F:Fr}{Z:Bt}{mem:List Ent}{w:World}
theorem Sat.rewrite(h:Sat H F Z mem w){i b es cap:Nat}{rows rows':List (List AV)}(hi:mem[i]? =some (.arr es rows))(hb:Z[i]? =some (some (b,es,cap)))
 {cells:Array Value}{elem:TypeId}
 (h3:cells.size=cap*es)(h4:rows'.length<=cap)(h5:∀r∈rows',r.length=es)(h6:∀r∈rows',∀c∈r,c.isCell=true)
 (h7:∀(i:Nat)(r:List AV)(j:Nat)(c:AV),rows'[i]? =some r->r[j]? =some c->∃v,cells[i*es+j]? =some v/\Rep H Z c v)(hbd:rows'≠[]->okC es cells elem):
 Sat H F Z (mem.set i (.arr es rows')) (zlv w b (.cells cells elem (0,0))):=by
 have hlt:b<w.heap.size:=(h.ent i _ _ hi hb).lt rfl;have hap:=h.apart i _ _ hi rfl hb;have get:∀(j:Nat)(e:Ent),(mem.set i (Ent.arr es rows'))[j]? =some e->(j=i/\e=.arr es rows')\/(j≠i/\mem[j]? =some e):=by
  intro j e hj;rw[List.getElem?_set]at hj;split at hj
  ·rename_i e';subst e';split at hj
   ·cases hj;exact .inl ⟨rfl,rfl⟩
   ·cases hj
  ·rename_i e';exact .inr ⟨fun x=>e' x.symm,hj⟩
 refine{hH:=fun c o x=>?_,gh:=h.gh,hF:=fun c o x=>?_,sm:=⟨h.sm.os,h.sm.tape,h.sm.output,by have:=h.sm.size;simpa[zlv]using this⟩,hl:=by simp[h.hl],ent:=fun j e x hj hx=>?_,apart:=fun j e x hj he hx=>?_,inj:=fun j k e e' x y hj he hk he' hx hy hxy=>?_}
 ·rw[zdn (fun e=>by subst e;rw[hap.1]at x;cases x)];exact h.hH _ _ x
 ·rw[zdn (fun e=>by subst e;rw[hap.2]at x;cases x)];exact h.hF _ _ x
 ·rcases get j e hj with⟨rfl,rfl⟩|⟨hne,hj'⟩
  ·rw[hb]at hx;cases hx;exact⟨rfl,cells,elem,zk8 hlt,h3,h4,h5,h6,h7,hbd⟩
  ·refine(h.ent j e x hj' hx).mono (zgm.refl _) (zcY.refl _) fun c es' cap' hxe hl=>?_;subst hxe;refine zdn fun e'=>?_;subst e';exact hne (h.inj j i e _ _ _ hj' hl hi rfl hx hb rfl)
 ·rcases get j e hj with⟨rfl,rfl⟩|⟨hne,hj'⟩
  ·exact h.apart j _ x hi rfl hx
  ·exact h.apart j e x hj' he hx
 ·have aux:∀(j:Nat)(e:Ent),(mem.set i (Ent.arr es rows'))[j]? =some e->e.live=true->∃e0:Ent,mem[j]? =some e0/\e0.live=true:=by
   intro j e hj he;rcases get j e hj with⟨rfl,rfl⟩|⟨hne,hj'⟩
   ·exact⟨_,hi,rfl⟩
   ·exact⟨_,hj',he⟩
  obtain⟨e0,hj0,he0⟩:=aux j e hj he;obtain⟨e1,hk0,he1⟩:=aux k e' hk he';exact h.inj j k e0 e1 x y hj0 he0 hk0 he1 hx hy hxy
theorem Sat.move(h:Sat H F Z mem w){i:Nat}{e:Ent}{x:Option (Nat×Nat×Nat)}(hi:mem[i]? =some e)(hb:Z[i]? =some x):
 Sat H F (Z++[x]) (mem.set i .dead++[e]) w:=by
 have hB:=zcY.append Z [x];have hlen:(mem.set i Ent.dead).length=mem.length:=by simp
 have old:∀(j:Nat)(e':Ent),(mem.set i Ent.dead++[e])[j]? =some e'->e'.live=true->(j<mem.length/\j≠i/\mem[j]? =some e')\/(j=mem.length/\e'=e):=by
  intro j e' hj he';rw[List.getElem?_append]at hj;split at hj
  ·rename_i hlt;rw[List.getElem?_set]at hj;split at hj
   ·split at hj
    ·cases hj;simp at he'
    ·cases hj
   ·rename_i hne;exact .inl ⟨by simpa using hlt,fun e=>hne e.symm,hj⟩
  ·rename_i hlt;have:j-(mem.set i Ent.dead).length=0:=by have:=(yga.1 hj).1;simp at this;omega
   rw[this]at hj;simp at hj hlt;exact .inr ⟨by simp at this;omega,hj.symm⟩
 have oldβ:∀j y,(Z++[x])[j]? =some y->(j<mem.length->Z[j]? =some y)/\(j=mem.length->y=x):=by
  intro j y hj;rw[<-h.hl];constructor
  ·intro hlt;rw[yge hlt]at hj;exact hj
  ·intro he;subst he;simp at hj;exact hj.symm
 have hil:i<mem.length:=(yga.1 hi).1;refine{hH:=h.hH,gh:=h.gh,hF:=h.hF,sm:=h.sm,hl:=by simp[h.hl],ent:=fun j e' y hj hy=>?_,apart:=fun j e' y hj he hy=>?_,inj:=fun j k e1 e2 y z hj he hk he' hy hz hyz=>?_}
 ·by_cases hl:e'.live=true
  ·rcases old j e' hj hl with⟨hlt,_,hj'⟩|⟨hlt,rfl⟩
   ·exact(h.ent j e' y hj' ((oldβ j y hy).1 hlt)).mono (zgm.refl _) hB fun _ _ _ _ _=>rfl
   ·have:=(oldβ j y hy).2 hlt;subst this;exact(h.ent i e' y hi hb).mono (zgm.refl _) hB fun _ _ _ _ _=>rfl
  ·cases e' with
   |dead=>trivial
   |arr _ _=>simp at hl
   |mp _=>simp at hl
 ·rcases old j e' hj he with⟨hlt,_,hj'⟩|⟨hlt,rfl⟩
  ·exact h.apart j e' y hj' he ((oldβ j _ hy).1 hlt)
  ·have:=(oldβ j _ hy).2 hlt;subst this;exact h.apart i e' y hi he hb
 ·rcases old j e1 hj he with⟨hlt,hne,hj'⟩|⟨hlt,rfl⟩<;>rcases old k e2 hk he' with⟨hlt',hne',hk'⟩|⟨hlt',rfl⟩
  ·exact h.inj j k e1 e2 y z hj' he hk' he' ((oldβ j _ hy).1 hlt) ((oldβ k _ hz).1 hlt') hyz
  ·have:=(oldβ k _ hz).2 hlt';subst this;exact absurd (h.inj j i e1 _ y z hj' he hi he' ((oldβ j _ hy).1 hlt) hb hyz) hne
  ·have:=(oldβ j _ hy).2 hlt;subst this;exact absurd (h.inj i k _ e2 y z hi he hk' he' hb ((oldβ k _ hz).1 hlt') hyz).symm hne'
  ·omega
end
def AV.cells:AV->List AV
|.agg cs=>cs
|v=>[v]
theorem Rep.one{H:Hp}{Z:Bt}{c:AV}{v:Value}(r:Rep H Z c v)(h:c.isCell=true):v.oneCell'=true/\v.cells= #[v]:=by
 cases r with
 |er _ hx=>cases v<;>first|exact hx.elim|exact⟨rfl,rfl⟩
 |_=>first|(simp at h;done)|exact⟨rfl,rfl⟩
theorem Rep.cells{H:Hp}{Z:Bt}{c:AV}{x:Value}(r:Rep H Z c x)(hc:∀d∈c.cells,d.isCell=true):
 x.cells.size=c.cells.length/\(∀v∈x.cells.toList,v.oneCell'=true)/\∀(i:Nat) d v,c.cells[i]? =some d->x.cells[i]? =some v->Rep H Z d v:=by
 cases c with
 |agg cs=>
  cases r with
  |agg hl hcs h=>
   refine⟨hl,fun v hv=>?_,h⟩;obtain⟨i,hi,rfl⟩:=List.getElem_of_mem hv;simp[Value.cells]at hi;have hi':i<cs.length:=by omega
   exact(h i cs[i] _ (ygb hi') (Array.getElem?_eq_getElem hi)).one (hcs _ (ygh hi')) |>.1
 |junk|int|bool|str|tup|e0|sl|ip|ms|mp|fn|mapr|nilp|nilf|nilm|opt=>
  have h2:=r.one (hc _ (List.mem_singleton.2 rfl));refine⟨by simp[h2.2,AV.cells],by simpa[h2.2]using h2.1,fun i d v hd hv=>?_⟩;rw[h2.2]at hv;cases i with
  |zero=>simp[AV.cells]at hd hv;subst hd;subst hv;exact r
  |succ i=>simp[AV.cells]at hd
theorem zgT{p:Nat->Value->Prop}:∀(n:Nat),(∀j,j<n->∃v,p j v)->∃vs:List Value,vs.length=n/\∀(j:Nat) v,vs[j]? =some v->p j v
|0,_=>⟨[],rfl,by simp⟩
|n+1,h=>by
 obtain⟨vs,hl,hv⟩:=zgT n fun j hj=>h j (by omega);obtain⟨v,hn⟩:=h n (by omega);refine⟨vs++[v],by simp[hl],fun j u hj=>?_⟩;rw[List.getElem?_append]at hj;split at hj
 ·exact hv j u hj
 ·rename_i hlt;have:j-vs.length=0:=by have:=(yga.1 hj).1;simp at this;omega
  rw[this]at hj;simp at hj;subst hj;obtain rfl:j=n:=by omega
  exact hn
theorem zbI(b o j:Nat):(⟨b,o,none⟩:Addr).add j=⟨b,o+j,none⟩:=by unfold Addr.add;split<;>simp_all
end Go.Fw
namespace Go.Fw
open Go
inductive K where
|mv (x:Ar)
|pick (c a b:Ar)
|boxi (n:Nat)(x:Ar)
|boxm (n:Nat)(x:Ar)
|alloc (zs:List AV)
|build (zs:List AV)(parts:List (Nat×Nat×Ar))
|buildo (o es:Nat)(zs:List AV)(parts:List (Nat×Nat×Ar))
|bsl (es:Nat)(parts:List Ar)
|bsl0
|bslm (es:Nat)(parts:List Ar)
|load (n:Option Nat)(x:Ar)
|store (n:Nat)(a x:Ar)
|nilc (x:Ar)
|bin (op:BinOp)(x y:Ar)
|beq (op:BinOp)(x y:Ar)
|not (x:Ar)
|neg (x:Ar)
|conv (k:IntKind)(x:Ar)
|b2s (x:Ar)
|s2b (x:Ar)
|sub (x:Ar)(lo hi:Option Ar)
|slc (es:Nat)(x:Ar)(lo hi:Option Ar)
|fa (off:Nat)(x:Ar)
|field (off:Nat)(n:Option Nat)(x:Ar)
|ia (es:Nat)(x i:Ar)
|idx (x i:Ar)
|lens (x:Ar)
|lenl (x:Ar)
|app (es:Nat)(x y:Ar)
|apps (x y:Ar)
|apf (es:Nat)(x y:Ar)
|eqs (op:BinOp)(ks:List Nat)(x y:Ar)
|call (f:FuncId)(args:List Ar)
|callv (f:Ar)(args:List Ar)
|ext (x:Ar)(i:Nat)
|mkfn (f:FuncId)(caps:List Ar)
|mks (es:Nat)(zs:List AV)(l:Ar)
|mx (big:Bool)(x y:Ar)
|mmk
|mlk (x y:Ar)
|isn (ne:Bool)(x:Ar)
|mup (m x y:Ar)
def InR(k:IntKind)(n:Int):Prop:=k.min<=n/\n<=k.max
@[simp] theorem zBq {n:Int}:InR .i64 n↔-9223372036854775808<=n/\n<=9223372036854775807:=by
 have h1:IntKind.i64.min= -9223372036854775808:=by decide
 have h2:IntKind.i64.max=9223372036854775807:=by decide
 simp[InR,h1,h2]
def LIM:Nat:=1099511627776
def nth(rows:List (List AV))(i:Nat):List AV:=rows.getD i []
@[simp] theorem zBT {α:Type}(l:List α)(f:α->List AV)(i:Nat)(h:i<l.length):nth (l.map f) i=f l[i]:=by simp[nth,h]
theorem zxt{rows:List (List AV)}{i:Nat}(h:i<rows.length):rows[i]? =some (nth rows i):=by simp[nth,h]
def zml(t:Bool):AV->AV->Option (Prop×AV)
|.bool x,.bool y=>some (True,.bool (bif t then x else y))
|.bool x,.opt g (.bool y)=>some (t=false->g=true,.bool (bif t then x else y))
|.opt g (.bool x),.bool y=>some (t=true->g=true,.bool (bif t then x else y))
|.bool x,.junk=>some (t=true,.bool x)
|.junk,.bool y=>some (t=false,.bool y)
|.bool x,.tup []=>some (t=true,.bool x)
|.tup [],.bool y=>some (t=false,.bool y)
|_,_=>none
def zbF(k:IntKind)(n:Int):Prop×AV:=
 match k with
 |.i64=>(InR .i64 n,.int .i64 n)
 |k=>(True,.int k (k.wrap n))
def ziH(op:BinOp)(x y:AV):Option (Prop×AV):=
 match x,y with
 |.int k a,.int k' b=>
  match op with
  |.add=>some (k=k'/\(zbF k (a+b)).1,(zbF k (a+b)).2)
  |.sub=>some (k=k'/\(zbF k (a-b)).1,(zbF k (a-b)).2)
  |.mul=>some (k=k'/\(zbF k (a*b)).1,(zbF k (a*b)).2)
  |.quo=>some (k=k'/\b≠0/\(zbF k (a.tdiv b)).1,(zbF k (a.tdiv b)).2)
  |.rem=>some (k=k'/\b≠0,.int k (a.tmod b))
  |.eql=>some (k=k',.bool (a==b))
  |.neq=>some (k=k',.bool (a !=b))
  |.lss=>some (k=k',.bool (decide (a<b)))
  |.leq=>some (k=k',.bool (decide (a<=b)))
  |.gtr=>some (k=k',.bool (decide (a>b)))
  |.geq=>some (k=k',.bool (decide (a>=b)))
  |.xor=>some (k=k',.int k (k.wrap (BitVec.ofInt k.bits a ^^^ BitVec.ofInt k.bits b).toNat))
  |.and=>some (k=k',.int k (k.wrap (BitVec.ofInt k.bits a&&&BitVec.ofInt k.bits b).toNat))
  |_=>none
 |.str a,.str b=>
  match op with
  |.add=>some (a.length+b.length<=BIG,.str (a++b))
  |.eql=>some (True,.bool (a==b))
  |.neq=>some (True,.bool (a !=b))
  |.lss=>some (True,.bool (Op.bytesLess a b))
  |.leq=>some (True,.bool (Op.bytesLess a b ||a==b))
  |.gtr=>some (True,.bool (!(Op.bytesLess a b ||a==b)))
  |.geq=>some (True,.bool (!(Op.bytesLess a b)))
  |_=>none
 |_,_=>none
def bnd(env:List (Nat×AV))(dflt:Int):Option Ar->Option Int
|none=>some dflt
|some a=>match ar env a with
 |.int _ n=>some n
 |_=>none
def zbP(mem:List Ent)(es:Nat):AV->Option (List (List AV))
|.e0=>some []
|.sl es' rows=>if es'=es then some rows else none
|.ms i es' off len=>match mem[i]? with
 |some (.arr es'' rows)=>if es'=es/\es''=es/\off+len<=rows.length then some ((rows.drop off).take len)else none
 |_=>none
|_=>none
def zpt(b:UInt8):List AV:=[.int .u8 b.toNat]
def znY:List AV->UInt8
|[.int .u8 n]=>UInt8.ofNat n.toNat
|_=>0
def isB:List AV->Bool
|[.int .u8 _]=>true
|_=>false
def zlx(zs:List AV):List (Nat×List AV)->List AV
|[]=>zs
| (o,cs):: r=>zlx (zs.take o++cs++zs.drop (o+cs.length)) r
def stC(cs:List AV)(off:Nat)(old:AV):Bool:=np1 cs ||off !=0 ||old.pt&&hd1 AV.n8 cs ||old.b8&&hd1 AV.na cs
abbrev Ev:=Prop×AV×List Ent
def apP(s:Bool):AV->Bool:=match s with
|true=>AV.np
|false=>AV.na
def zdJ(s:Bool)(mem:List Ent)(es:Nat)(x:AV)(ys:List (List AV)):Option Ev:=
 match x with
 |.e0=>some (ys.length<=LIM/\hd1 (apP s) (ys.headD [])=true,.ms mem.length es 0 ys.length,mem++[.arr es ys])
 |.ms i es' off len=>match mem[i]? with
  |some (.arr es'' rows)=>some (es'=es/\es''=es/\off=0/\len<=rows.length/\len+ys.length<=LIM/\hd1 (apP s) ((rows.take len++ys).headD [])=true/\(s ||Nat.blt 0 len)=true,.ms mem.length es 0 (len+ys.length),mem.set i .dead++[.arr es (rows.take len++ys)])
  |_=>none
 |_=>none
def eqA:List Nat->List AV->List AV->Option Bool
|[],[],[]=>some true
|2:: ks,.int k a:: l,.int k' b:: l'=>if k=k' then(eqA ks l l').bind fun r=>some (a==b&&r)else none
|0:: ks,.bool a:: l,.bool b:: l'=>(eqA ks l l').bind fun r=>some (a==b&&r)
|1:: ks,.str a:: l,.str b:: l'=>(eqA ks l l').bind fun r=>some (a==b&&r)
|_,_,_=>none
def zpy(mem:List Ent)(es:Nat)(x:AV)(ys:List (List AV)):Option Ev:=
 match zdJ true mem es x ys with
 |some (p,.ms j _ _ n,m)=>match m[j]? with
  |some (.arr _ rows)=>some (p/\n=rows.length/\(rows.all fun r=>r.all AV.pure)=true,.sl es rows,m.set j .dead)
  |_=>none
 |_=>none
def zkY(k:List UInt8):List (AV×AV)->Option (Option AV)
|[]=>some none
| (.str k',v):: r=>if k'=k then some (some v)else zkY k r
|_=>none
def evK(k:K)(env:List (Nat×AV))(mem:List Ent):Option Ev:=
 match k with
 |.mv x=>some (True,ar env x,mem)
 |.pick c a b=>match ar env c with
  |.bool t=>match zml t (ar env a) (ar env b)with
   |some (p,v)=>some (p,v,mem)
   |none=>none
  |_=>none
 |.boxi n x=>some ((ar env x).cells.length=n/\((ar env x).cells.all fun c=>c.isCell&&c.pure)=true,.ip (ar env x).cells,mem)
 |.boxm n x=>some ((ar env x).cells.length=n/\((ar env x).cells.all AV.isCell)=true/\(np1 (ar env x).cells ||n !=2&&hd1 AV.n8 (ar env x).cells)=true,.mp mem.length 0 0,mem++[.arr n [(ar env x).cells]])
 |.alloc zs=>some (True,.mp mem.length 0 0,mem++[.arr zs.length [zs]])
 |.build zs parts=>some ((parts.all fun(o,s,x)=>(ar env x).cells.length==s&&(ar env x).cells.all AV.isCell&&decide (o+s<=zs.length))=true,.agg (zlx zs (parts.map fun(o,_,x)=>(o,(ar env x).cells))),mem)
 |.buildo p es zs parts=>some (zs[p]? =some .e0/\(parts.all fun(o,s,x)=>(ar env x).cells.length==s&&(ar env x).cells.all AV.isCell&&decide (o+s<=zs.length))=true,.agg (zlx (zs.set p (.ms mem.length es 0 0)) (parts.map fun(o,_,x)=>(o,(ar env x).cells))),mem++[.arr es []])
 |.bsl es parts=>some ((parts.all fun x=>(ar env x).cells.length==es&&(ar env x).cells.all fun c=>c.isCell&&c.pure)=true,.sl es (parts.map fun x=>(ar env x).cells),mem)
 |.bsl0=>some (True,.e0,mem)
 |.bslm es parts=>some ((parts.all fun x=>(ar env x).cells.length==es&&(ar env x).cells.all AV.isCell)=true/\(np1 ((parts.map fun x=>(ar env x).cells).headD []) ||es !=2&&hd1 AV.n8 ((parts.map fun x=>(ar env x).cells).headD []))=true,.ms mem.length es 0 parts.length,mem++[.arr es (parts.map fun x=>(ar env x).cells)])
 |.load none x=>match ar env x with
  |.ip cs=>match cs.head? with
   |some c=>some (True,c,mem)
   |none=>none
  |.mp i r off=>match mem[i]? with
   |some (.arr _ rows)=>match rows[r]? with
    |some row=>match row[off]? with
     |some c=>some (True,c,mem)
     |none=>none
    |none=>none
   |_=>none
  |_=>none
 |.load (some n) x=>match ar env x with
  |.ip cs=>some (n<=cs.length,.agg (cs.take n),mem)
  |.mp i r off=>match mem[i]? with
   |some (.arr _ rows)=>match rows[r]? with
    |some row=>some (off+n<=row.length,.agg ((row.drop off).take n),mem)
    |none=>none
   |_=>none
  |_=>none
 |.store n a x=>match ar env a with
  |.mp i r off=>match mem[i]? with
   |some (.arr es rows)=>match rows[r]? with
    |some row=>some ((ar env x).cells.length=n/\((ar env x).cells.all AV.isCell)=true/\off+n<=row.length/\stC (ar env x).cells off (row.headD .junk)=true,.junk,mem.set i (.arr es (rows.set r (row.take off++(ar env x).cells++row.drop (off+n)))))
    |none=>none
   |_=>none
  |_=>none
 |.nilc x=>match ar env x with
  |.ip cs=>some (True,.ip cs,mem)
  |.mp i r off=>some (True,.mp i r off,mem)
  |_=>none
 |.bin op x y=>match ziH op (ar env x) (ar env y)with
  |some (p,v)=>some (p,v,mem)
  |none=>none
 |.beq op x y=>match ar env x,ar env y,op with
  |.bool a,.bool b,.eql=>some (True,.bool (a==b),mem)
  |.bool a,.bool b,.neq=>some (True,.bool (a !=b),mem)
  |_,_,_=>none
 |.eqs op ks x y=>match ar env x,ar env y,op with
  |.agg cs,.agg ds,.eql=>match eqA ks cs ds with
   |some b=>some (True,.bool b,mem)
   |none=>none
  |.agg cs,.agg ds,.neq=>match eqA ks cs ds with
   |some b=>some (True,.bool (!b),mem)
   |none=>none
  |_,_,_=>none
 |.not x=>match ar env x with
  |.bool b=>some (True,.bool (!b),mem)
  |_=>none
 |.neg x=>match ar env x with
  |.int k n=>some ((zbF k (0-n)).1,(zbF k (0-n)).2,mem)
  |_=>none
 |.conv k x=>match ar env x with
  |.int _ n=>some (True,.int k (k.wrap n),mem)
  |_=>none
 |.b2s x=>match zbP mem 1 (ar env x)with
  |some rows=>some ((rows.all isB)=true/\rows.length<=BIG,.str (rows.map znY),mem)
  |none=>none
 |.s2b x=>match ar env x with
  |.str s=>some (True,.sl 1 (s.map zpt),mem)
  |_=>none
 |.sub x lo hi=>match ar env x with
  |.str s=>match bnd env 0 lo,bnd env s.length hi with
   |some l,some h=>some (0<=l/\l<=h/\h<=s.length,.str ((s.drop l.toNat).take (h.toNat-l.toNat)),mem)
   |_,_=>none
  |_=>none
 |.slc sz x lo hi=>match ar env x with
  |.sl es rows=>match bnd env 0 lo,bnd env rows.length hi with
   |some l,some h=>some (sz=es/\0<=l/\l<=h/\h<=rows.length,.sl es ((rows.drop l.toNat).take (h.toNat-l.toNat)),mem)
   |_,_=>none
  |.ms i es off len=>match bnd env 0 lo,bnd env len hi with
   |some l,some h=>some (sz=es/\0<=l/\l<=h/\h<=len,.ms i es (off+l.toNat) (h.toNat-l.toNat),mem)
   |_,_=>none
  |.e0=>match bnd env 0 lo,bnd env 0 hi with
   |some l,some h=>some (l=0/\h=0,.e0,mem)
   |_,_=>none
  |_=>none
 |.fa off x=>match ar env x with
  |.ip cs=>some (off<=cs.length,.ip (cs.drop off),mem)
  |.mp i r o=>some (True,.mp i r (o+off),mem)
  |_=>none
 |.field off none x=>match ar env x with
  |.agg cs=>match cs[off]? with
   |some c=>some (True,c,mem)
   |none=>none
  |_=>none
 |.field off (some n) x=>match ar env x with
  |.agg cs=>some (off+n<=cs.length,.agg ((cs.drop off).take n),mem)
  |_=>none
 |.ia es x i=>match ar env x,ar env i with
  |.sl es' rows,.int _ n=>some (es'=es/\0<=n/\n<rows.length,.ip (nth rows n.toNat),mem)
  |.ms j es' off len,.int _ n=>some (es'=es/\0<=n/\n<len,.mp j (off+n.toNat) 0,mem)
  |_,_=>none
 |.idx x i=>match ar env x,ar env i with
  |.str s,.int _ n=>some (0<=n/\n<s.length,.int .u8 (s.getD n.toNat 0).toNat,mem)
  |_,_=>none
 |.lens x=>match ar env x with
  |.str s=>some (True,.int .i64 s.length,mem)
  |_=>none
 |.lenl x=>match ar env x with
  |.sl _ rows=>some (True,.int .i64 rows.length,mem)
  |.ms _ _ _ len=>some (True,.int .i64 len,mem)
  |.e0=>some (True,.int .i64 0,mem)
  |_=>none
 |.app es x y=>match zbP mem es (ar env y)with
  |some ys=>zdJ true mem es (ar env x) ys
  |none=>none
 |.apf es x y=>match zbP mem es (ar env y)with
  |some ys=>zpy mem es (ar env x) ys
  |none=>none
 |.apps x y=>match ar env y with
  |.str s=>zdJ false mem 1 (ar env x) (s.map zpt)
  |_=>none
 |.ext x i=>match ar env x with
  |.tup vs=>match vs[i]? with
   |some v=>some (True,v,mem)
   |none=>none
  |_=>none
 |.mmk=>some (True,.mapr mem.length,mem++[.mp []])
 |.isn ne x=>match ar env x with
  |.fn f [.bool b]=>some (f=ERR,.bool (b==ne),mem)
  |_=>none
 |.mlk x y=>match ar env x,ar env y with
  |.mapr i,.str k=>match mem[i]? with
   |some (.mp es)=>match zkY k es with
    |some (some v)=>some (v.isCell=true,.tup [v,.bool true],mem)
    |some none=>some (True,.tup [.str [],.bool false],mem)
    |none=>none
   |_=>none
  |_,_=>none
 |.mup m x y=>match ar env m,ar env x,ar env y with
  |.mapr i,.str k,.str v=>match mem[i]? with
   |some (.mp es)=>match zkY k es with
    |some none=>some (True,.junk,mem.set i (.mp (es++[(.str k,.str v)])))
    |_=>none
   |_=>none
  |_,_,_=>none
 |.mkfn f caps=>some (True,.fn f (caps.map (ar env)),mem)
 |.mks es zs l=>match ar env l with
  |.int _ n=>some (0<=n/\n<=LIM,.ms mem.length es 0 n.toNat,mem++[.arr es (List.replicate n.toNat zs)])
  |_=>none
 |.mx b x y=>match ar env x,ar env y with
  |.int k m,.int k' n=>some (k=k',.int k (bif b then max m n else min m n),mem)
  |_,_=>none
 |.call _ _|.callv _ _=>none
def szB(P:Program)(t:TypeId):Option Nat:=(P.info? t).map (·.size)
def znT(P:Program)(t:TypeId):Option Bool:=(P.underlying t).map fun|.struct _|.array _ _=>true|_=>false
def zbZ(P:Program)(t:TypeId):Option TypeId:=match P.underlying t with|some (.slice e)=>some e|_=>none
def zgB(P:Program)(t:TypeId)(f:Nat):Option (Nat×TypeId):=
 match P.underlying t with
 |some (.struct fs)=>(fs[f]?).map fun x=>(x.offset,x.type)
 |_=>none
def zh8(P:Program)(t:TypeId):Bool:=match P.underlying t with|some .string=>true|_=>false
def zq8(P:Program)(t:TypeId):Bool:=match P.underlying t with|some .bool=>true|_=>false
def ztE(P:Program)(t:TypeId):Bool:=match P.underlying t with|some (.interface _)=>true|_=>false
def zh7(P:Program)(t:TypeId)(k:IntKind):Bool:=match P.underlying t with|some (.int k')=>k==k'|_=>false
def zwm(P:Program)(k:Nat)(t:TypeId):Bool:=match P.underlying t with
|some .bool=>k==0
|some .string=>k==1
|some (.int _)=>k==2
|_=>false
def ziV(P:Program):Nat->List Nat->List Go.Field->Bool
|_,[],[]=>true
|i,k:: ks,f:: fs=>f.name != "_" &&f.offset==i&&zwm P k f.type&&ziV P (i+1) ks fs
|_,_,_=>false
def zp6(P:Program)(ks:List Nat)(t:TypeId):Bool:=match P.underlying t with
|some (.struct fs)=>!(P.stoodInHeld t)&&!(P.eqGuardType P.depth t)&&ziV P 0 ks fs.toList
|_=>false
def zex(P:Program)(t:TypeId)(zs:List AV):Bool:=
 match(P.info? t).bind (·.zero)with
 |some z=>zcJ zs z.cells.toList
 |none=>false
def ziU(P:Program)(t:TypeId):Option (List (Nat×Nat)):=
 match P.underlying t with
 |some (.struct fs)=>fs.toList.mapM fun f=>(P.info? f.type).map fun i=>(f.offset,i.size)
 |_=>none
def zqL:Option Ar->Option Operand->Bool
|none,none=>true
|some a,some b=>zah a b
|_,_=>false
def zcI(P:Program)(t:TypeId):List (Nat×Nat×Ar)->List (Nat×Operand)->Bool
|[],[]=>true
| (o,s,x):: r,(i,y):: r'=>(match zgB P t i with|some (o',t')=>o==o'&&szB P t'==some s|none=>false)&&zah x y&&zcI P t r r'
|_,_=>false
def zdW(n:Nat):List Ar->List (Nat×Operand)->Bool
|[],[]=>true
|x:: r,(i,y):: r'=>i==n&&zah x y&&zdW (n+1) r r'
|_,_=>false
def zgy:List Ar->List Operand->Bool
|[],[]=>true
|x:: r,y:: r'=>zah x y&&zgy r r'
|_,_=>false
def zse(P:Program)(t:TypeId):Bool:=
 match P.underlying t with
 |some (.map k e)=>(match P.underlying k with|some .string=>true|_=>false)&&(match(P.info? e).bind (·.zero)with|some (.string s)=>s.data.toList.isEmpty|_=>false)
 |_=>false
def zsQ(P:Program)(k:K)(op:Op):Bool:=
 match k,op with
 |.mv x,.move y=>zah x y
 |.mmk,.makeMap _ none=>true
 |.mlk x y,.lookup t x' y' true=>zah x x'&&zah y y'&&zse P t
 |.mup m x y,.mapUpdate t m' x' y'=>zah m m'&&zah x x'&&zah y y'&&zse P t
 |.mv x,.assign y=>zah x y
 |.pick c a b,.pick c' a' b'=>zah c c'&&zah a a'&&zah b b'
 |.boxi n x,.box t y=>zah x y&&szB P t==some n
 |.boxm n x,.box t y=>zah x y&&szB P t==some n
 |.alloc zs,.alloc t=>zex P t zs&&szB P t==some zs.length&&(np1 zs ||(zs.length !=2 ||t==TB)&&hd1 AV.n8 zs ||zs.length !=2&&t==T5)
 |.build zs parts,.build t ps=>zex P t zs&&(ziU P t).isSome&&zcI P t parts ps.toList
 |.buildo _ _ zs parts,.build t ps=>zex P t zs&&(ziU P t).isSome&&zcI P t parts ps.toList
 |.bsl es parts,.buildSlice t n ps=>(match zbZ P t with|some e=>szB P e==some es&&(P.info? e).any (·.zero.isSome)|none=>false)&&n==parts.length&&decide (0<es)&&decide (n*es<=16777216)&&zdW 0 parts ps.toList
 |.bslm es parts,.buildSlice t n ps=>(match zbZ P t with|some e=>szB P e==some es&&(P.info? e).any (·.zero.isSome)|none=>false)&&n==parts.length&&decide (0<es)&&decide (n*es<=16777216)&&zdW 0 parts ps.toList
 |.bsl0,.buildSlice t n ps=>(match zbZ P t with|some e=>(szB P e).isSome|none=>false)&&n==0&&ps.size==0
 |.load none x,.load t y=>zah x y&&znT P t==some false
 |.load (some n) x,.load t y=>zah x y&&znT P t==some true&&szB P t==some n
 |.store n a x,.store t b y=>zah a b&&zah x y&&szB P t==some n
 |.nilc x,.nilCheck y=>zah x y
 |.bin op x y,.binOp op' _ x' y' _=>op==op'&&zah x x'&&zah y y'
 |.eqs op ks x y,.binOp op' t x' y' _=>op==op'&&zah x x'&&zah y y'&&zp6 P ks t
 |.beq op x y,.binOp op' t x' y' _=>op==op'&&zah x x'&&zah y y'&&zq8 P t
 |.isn true x,.binOp .neq t x' (.const .nilIface) _=>zah x x'&&ztE P t
 |.isn false x,.binOp .eql t x' (.const .nilIface) _=>zah x x'&&ztE P t
 |.not x,.unOp .not _ y=>zah x y
 |.neg x,.unOp .neg _ y=>zah x y
 |.conv k x,.convert s d y=>zah x y&&zh7 P d k&&(P.underlying s).isSome
 |.b2s x,.convert s d y=>zah x y&&zh8 P d&&(match zbZ P s with|some e=>zh7 P e .u8|none=>false)
 |.s2b x,.convert s d y=>zah x y&&zh8 P s&&(match zbZ P d with|some e=>zh7 P e .u8|none=>false)
 |.sub x lo hi,.slice t y lo' hi' none=>zah x y&&zqL lo lo'&&zqL hi hi'&&zh8 P t
 |.slc es x lo hi,.slice t y lo' hi' none=>zah x y&&zqL lo lo'&&zqL hi hi'&&(match zbZ P t with|some e=>szB P e==some es|none=>false)
 |.fa off x,.fieldAddr t y f=>zah x y&&(match zgB P t f with|some (o,t')=>o==off&&(match szB P t' with|some n=>decide (0<n)|none=>false)|none=>false)
 |.field off none x,.field t y f=>zah x y&&(match zgB P t f with|some (o,t')=>o==off&&znT P t'==some false|none=>false)
 |.field off (some n) x,.field t y f=>zah x y&&(match zgB P t f with|some (o,t')=>o==off&&znT P t'==some true&&szB P t'==some n|none=>false)
 |.ia es x i,.indexAddr t y j=>zah x y&&zah i j&&(match zbZ P t with|some e=>szB P e==some es|none=>false)
 |.idx x i,.index t y j=>zah x y&&zah i j&&zh8 P t
 |.lens x,.call {callee:=.builtin .len,args,argTypes}=>(match args.toList,argTypes.toList with|[y],[t]=>zah x y&&zh8 P t|_,_=>false)
 |.lenl x,.call {callee:=.builtin .len,args,argTypes}=>(match args.toList,argTypes.toList with|[y],[t]=>zah x y&&(zbZ P t).isSome|_,_=>false)
 |.app es x y,.call {callee:=.builtin .append,args,argTypes} =>
  (match args.toList,argTypes.toList with
   |[x',y'],[t,u]=>zah x x'&&zah y y'&&(zbZ P u).isSome&&(match zbZ P t with
    |some e=>szB P e==some es&&decide (0<es)&&(match P.info? e with|some i=>decide (i.bytes<=128)&&(match i.zero with|some z=>z.cells.size==es|none=>false)|none=>false)
    |none=>false)
   |_,_=>false)
 |.apf es x y,.call {callee:=.builtin .append,args,argTypes} =>
  (match args.toList,argTypes.toList with
   |[x',y'],[t,u]=>zah x x'&&zah y y'&&(zbZ P u).isSome&&(match zbZ P t with
    |some e=>szB P e==some es&&decide (0<es)&&(match P.info? e with|some i=>decide (i.bytes<=128)&&(match i.zero with|some z=>z.cells.size==es|none=>false)|none=>false)
    |none=>false)
   |_,_=>false)
 |.apps x y,.call {callee:=.builtin .append,args,argTypes} =>
  (match args.toList,argTypes.toList with
   |[x',y'],[t,u]=>zah x x'&&zah y y'&&zh8 P u&&(match zbZ P t with
    |some e=>zh7 P e .u8&&e==T5&&szB P e==some 1&&(match P.info? e with|some i=>decide (i.bytes<=128)&&(match i.zero with|some z=>z.cells.size==1|none=>false)|none=>false)
    |none=>false)
   |_,_=>false)
 |.ext x i,.extract y j=>zah x y&&i==j
 |.mkfn f caps,.makeFunc (.func g) fst cs=>(match Nat.blt f BB with|true=>fst.size==0|false=>cs.size==0&&!(Nat.beq f ERR))&&fnum f==g&&zgy caps (fst++cs).toList
 |.mks es zs l,.makeSlice t l' c'=>zah l l'&&zah l c'&&(match zbZ P t with
  |some e=>szB P e==some es&&zex P e zs&&zs.length==es&&(np1 zs ||hd1 AV.na zs&&e==T5)&&decide (0<es)&&(match P.info? e with|some i=>decide (i.bytes<=128)|none=>false)
  |none=>false)
 |.mx true x y,.call {callee:=.builtin .max,args,.. }=>(match args.toList with|[x',y']=>zah x x'&&zah y y'|_=>false)
 |.mx false x y,.call {callee:=.builtin .min,args,.. }=>(match args.toList with|[x',y']=>zah x x'&&zah y y'|_=>false)
 |.call f args,.call {callee:=.value (.func g),args:=as,.. }=>f==g&&zgy args as.toList
 |.callv f args,.call {callee:=.value g,args:=as,.. }=>zah f g&&zgy args as.toList
 |_,_=>false
end Go.Fw
namespace Go.Fw
open Go
def zcH(P:Program)(H:Hp)(F:Fr)(Z:Bt)(o:Oper)(a:Act)(w:World)(v:AV)(m':List Ent):Prop:=
 ∃x w' H' β',((execOp a.eval o).run P w=.ok (.value x) w'\/((execOp a.eval o).run P w=.ok .skip w'/\x=undef))/\HX F H H'/\zcY Z β'/\
  Rep H' β' v x/\Sat H' F β' m' w'
section
variable {P:Program}{H:Hp}{F:Fr}{Z:Bt}{N:Nat}{st:St}{a:Act}{w:World}{o:Oper}
theorem zcH.same{v:AV}{x:Value}(h:Rel H F Z N st a w)(hr:(execOp a.eval o).run P w=.ok (.value x) w)(hv:Rep H Z v x):
 zcH P H F Z o a w v st.mem:=⟨x,w,H,Z,.inl hr,.refl _ _,.refl _,hv,h.sat⟩
theorem zci{t:TypeId}{n:Nat}(h:szB P t=some n)(w:World):(sizeOf t).run P w=.ok n w:=by
 unfold szB at h;cases hi:P.info? t with
 |none=>simp[hi]at h
 |some i=>simp[hi]at h;simp[sizeOf,typeInfo,hi,h]
theorem zha{t:TypeId}{b:Bool}(h:znT P t=some b)(w:World):(isAgg t).run P w=.ok b w:=by
 unfold znT at h;cases hu:P.underlying t with
 |none=>simp[hu]at h
 |some d=>simp[hu]at h;cases d<;>simp at h<;>subst h<;>simp[isAgg,run_underlying hu]
theorem zaJ{t e:TypeId}(h:zbZ P t=some e):P.underlying t=some (.slice e):=by
 unfold zbZ at h;split at h
 ·cases h;assumption
 ·cases h
theorem zes{t:TypeId}(h:zh8 P t=true):P.underlying t=some .string:=by
 unfold zh8 at h;split at h
 ·assumption
 ·cases h
theorem zld{t:TypeId}{k:IntKind}(h:zh7 P t k=true):P.underlying t=some (.int k):=by
 unfold zh7 at h;split at h
 ·rename_i k' e;simp at h;subst h;exact e
 ·cases h
theorem zu3{t:TypeId}(h:ztE P t=true):∃d,P.underlying t=some (.interface d):=by
 unfold ztE at h;split at h
 ·exact⟨_,by assumption⟩
 ·cases h
theorem zst{t:TypeId}(h:zq8 P t=true):P.underlying t=some .bool:=by
 unfold zq8 at h;split at h
 ·assumption
 ·cases h
theorem zjL{t:TypeId}{f off:Nat}{t':TypeId}(h:zgB P t f=some (off,t')):
 ∃fs fd,P.underlying t=some (.struct fs)/\fs[f]? =some fd/\fd.offset=off/\fd.type=t':=by
 unfold zgB at h;split at h
 ·rename_i fs e;cases hf:fs[f]? with
  |none=>simp[hf]at h
  |some fd=>simp[hf]at h;exact⟨fs,fd,e,hf,h.1,h.2⟩
 ·cases h
theorem zxF{x:Ar}{y:Operand}(h:Rel H F Z N st a w)(hc:zah x y=true)(ho:o.op=.move y\/o.op=.assign y):
 zcH P H F Z o a w (ar st.env x) st.mem:=
 .same h (by rcases ho with ho|ho<;>simp[execOp,ho]) (h.ar hc)
theorem zdg{b:Bool}{x:Value}(r:Rep H Z (.bool b) x):x=.bool b:=by cases r;rfl
theorem zct{k:IntKind}{n:Int}{x:Value}(r:Rep H Z (.int k n) x):x=.int k n/\InR k n:=by cases r;exact⟨rfl,by assumption⟩
theorem zcu{s:List UInt8}{x:Value}(r:Rep H Z (.str s) x):x=.string ⟨s.toArray⟩/\s.length<=BIG:=by cases r;exact⟨rfl,by assumption⟩
theorem zwM{c x y:Ar}{c' x' y':Operand}{t:Bool}{p:Prop}{v:AV}(h:Rel H F Z N st a w)(hc:zah c c'=true)(hx:zah x x'=true)(hy:zah y y'=true)
 (ho:o.op=.pick c' x' y')(ht:ar st.env c=.bool t)(hp:zml t (ar st.env x) (ar st.env y)=some (p,v))(hs:p):
 zcH P H F Z o a w v st.mem:=by
 have r1:=h.ar hc;have r2:=h.ar hx;have r3:=h.ar hy;rw[ht]at r1;have e1:=zdg r1;refine .same (x:=if t then a.eval x' else a.eval y') h (by simp[execOp,ho,e1,asBool]) ?_;unfold zml at hp;split at hp
 ·rename_i u z hu hz;cases hp;rw[hu]at r2;rw[hz]at r3;cases t
  ·simpa using r3
  ·simpa using r2
 ·rename_i u g z hu hz;cases hp;rw[hu]at r2;rw[hz]at r3;cases t
  ·cases r3 with
   |opt hh=>simpa using hh (hs rfl)
  ·simpa using r2
 ·rename_i g u z hu hz;cases hp;rw[hu]at r2;rw[hz]at r3;cases t
  ·simpa using r3
  ·cases r2 with
   |opt hh=>simpa using hh (hs rfl)
 ·rename_i u hu hz;cases hp;subst hs;rw[hu]at r2;simpa using r2
 ·rename_i u hu hz;cases hp;subst hs;rw[hz]at r3;simpa using r3
 ·rename_i u hu hz;cases hp;subst hs;rw[hu]at r2;simpa using r2
 ·rename_i u hu hz;cases hp;subst hs;rw[hz]at r3;simpa using r3
 ·cases hp
theorem zn0{v:AV}{p:AV->Bool}(h:(v.cells.all p)=true)(hp:∀c,p c=true->c.isCell=true):∀c∈v.cells,c.isCell=true:=fun c hc=>hp c (List.all_eq_true.1 h c hc)
theorem zwF{n:Nat}{x:Ar}{y:Operand}{t:TypeId}(h:Rel H F Z N st a w)(hc:zah x y=true)(ho:o.op=.box t y)
 (hs:(ar st.env x).cells.length=n/\((ar st.env x).cells.all fun c=>c.isCell&&c.pure)=true):
 zcH P H F Z o a w (.ip (ar st.env x).cells) st.mem:=by
 have r:=h.ar hc;have hcell:∀c∈(ar st.env x).cells,c.isCell=true:=zn0 hs.2 (by simp;intros;assumption);have hpure:∀c∈(ar st.env x).cells,c.pure=true:=fun c hc=>by have:=List.all_eq_true.1 hs.2 c hc;simp at this;exact this.2
 obtain⟨h1,h2,h3⟩:=r.cells hcell;have hn:=h.sat.none_at_size;refine⟨.pointer (some ⟨w.heap.size,0,none⟩),w.alloc (.cells (a.eval y).cells t),zgb H w.heap.size (.cells (a.eval y).cells t),Z,.inl ?_,ziw hn,.refl _,?_,h.sat.alloc_pub _⟩
 ·simp[execOp,ho,Instr.box,newVar,newRow]
 ·refine .ip (fun j=>(a.eval y).cells.getD j undef) (by simp[zgb];exact⟨rfl,rfl,rfl⟩) (fun j hj=>?_) hcell fun j c hj=>?_
  ·have:j<(a.eval y).cells.size:=by omega
   simp[this]
  ·have hj':j<(a.eval y).cells.size:=by have:=(yga.1 hj).1;omega
   have hv:(a.eval y).cells[j]? =some ((a.eval y).cells.getD j undef):=by simp[hj']
   exact((h3 j c _ hj hv).pure (hpure c (ygd hj)) []).mono (zdt hn.1) (.refl _)
theorem zx7{v:Value}{cs:List AV}(hl:v.cells.size=cs.length)(hr:∀(i:Nat) d x,cs[i]? =some d->v.cells[i]? =some x->Rep H Z d x):
 ∀(i:Nat)(r:List AV)(j:Nat)(c:AV),[cs][i]? =some r->r[j]? =some c->∃x,v.cells[i*cs.length+j]? =some x/\Rep H Z c x:=by
 intro i r j c hi hj;cases i with
 |zero=>
  simp at hi;subst hi;have:j<v.cells.size:=by have:=(yga.1 hj).1;omega
  exact⟨v.cells[j],by simp[this],hr j c _ hj (Array.getElem?_eq_getElem this)⟩
 |succ i=>simp at hi
theorem zuQ{v:Value}{cs:List AV}{t:TypeId}(h:Rel H F Z N st a w)(hl:v.cells.size=cs.length)(hcell:∀c∈cs,c.isCell=true)
 (hr:∀(i:Nat) d x,cs[i]? =some d->v.cells[i]? =some x->Rep H Z d x)
 (hrun:(execOp a.eval o).run P w=.ok (.value (.pointer (some ⟨w.heap.size,0,none⟩))) (w.alloc (.cells v.cells t)))(hbd:okC cs.length v.cells t):
 zcH P H F Z o a w (.mp st.mem.length 0 0) (st.mem++[.arr cs.length [cs]]):=by
 refine⟨_,_,H,Z++[some (w.heap.size,cs.length,1)],.inl hrun,.refl _ _,.append _ _,?_,?_⟩
 ·have:Rep H (Z++[some (w.heap.size,cs.length,1)]) (.mp st.mem.length 0 0) (.pointer (some ⟨w.heap.size,0*cs.length+0,none⟩)):=
   .mp (capT:=1) (by rw[<-h.sat.hl];simp)
  simpa using this
 ·exact h.sat.alloc_own (by simp[hl]) (by simp) (by simp) (by simpa using hcell) (zx7 hl hr) fun _=>hbd
theorem zxb{v:Value}{cs:List AV}{p:AV->Bool}(hl:v.cells.size=cs.length)(hr:∀(i:Nat) d x,cs[i]? =some d->v.cells[i]? =some x->Rep H Z d x)(hp:hd1 p cs=true):∀x,v.cells[0]? =some x->∃c,p c=true/\Rep H Z c x:=by
 intro x hx;have:=(Array.getElem?_eq_some_iff.1 hx).1;cases cs with
 |nil=>rw[hl]at this;exact absurd this (by simp)
 |cons c cs=>exact⟨c,hp,hr 0 c x rfl hx⟩
theorem zyS{v:Value}{cs:List AV}{t:TypeId}(hl:v.cells.size=cs.length)(hr:∀(i:Nat) d x,cs[i]? =some d->v.cells[i]? =some x->Rep H Z d x)(hs:(np1 cs ||(cs.length !=2 ||t==TB)&&hd1 AV.n8 cs ||cs.length !=2&&t==T5)=true):okC cs.length v.cells t:=by
 simp only[Bool.or_eq_true,yhb,yhf,yhe]at hs;rcases hs with(hs|⟨h1,h2⟩)|⟨h1,h2⟩
 ·exact zoQ (zxb hl hr hs)
 ·refine zxu ?_ (zxb hl hr h2);by_cases h:cs.length=2
  ·exact .inr ⟨h1.resolve_left (fun h'=>h' h),hl.trans h⟩
  ·exact .inl h
 ·exact⟨fun h=>absurd h.1 h1,fun _=>h2⟩
theorem zwG{n:Nat}{x:Ar}{y:Operand}{t:TypeId}(h:Rel H F Z N st a w)(hc:zah x y=true)(ho:o.op=.box t y)
 (hs:(ar st.env x).cells.length=n/\((ar st.env x).cells.all AV.isCell)=true/\(np1 (ar st.env x).cells ||n !=2&&hd1 AV.n8 (ar st.env x).cells)=true):
 zcH P H F Z o a w (.mp st.mem.length 0 0) (st.mem++[.arr n [(ar st.env x).cells]]):=by
 have r:=h.ar hc;have hcell:∀c∈(ar st.env x).cells,c.isCell=true:=fun c hc=>List.all_eq_true.1 hs.2.1 c hc;obtain⟨h1,h2,h3⟩:=r.cells hcell;obtain⟨hs1,hs2,hs3⟩:=hs;subst hs1;exact zuQ (v:=a.eval y) (t:=t) h h1 hcell h3 (by simp[execOp,ho,Instr.box,newVar,newRow]) (zyS h1 h3 (by simp only[Bool.or_eq_true,yhb]at hs3|-;exact hs3.elim (fun h=>.inl (.inl h)) fun h=>.inl (.inr ⟨.inl h.1,h.2⟩)))
theorem zuJ{zs:List AV}{t:TypeId}(h:Rel H F Z N st a w)(hz:zex P t zs=true)(ho:o.op=.alloc t)(hb:(np1 zs ||(zs.length !=2 ||t==TB)&&hd1 AV.n8 zs ||zs.length !=2&&t==T5)=true):
 zcH P H F Z o a w (.mp st.mem.length 0 0) (st.mem++[.arr zs.length [zs]]):=by
 unfold zex at hz;split at hz
 ·rename_i z hzz;obtain⟨h1,h2,h3⟩:=zbE H Z zs z.cells.toList hz;have hzv:(zeroValue t).run P w=.ok z w:=by
   cases hi:P.info? t with
   |none=>simp[hi]at hzz
   |some i=>simp[hi]at hzz;simp[zeroValue,typeInfo,hi,hzz]
  exact zuQ (v:=z) (t:=t) h (by simpa using h1.symm) h2 (fun i d x hd hx=>h3 i d x hd (by simpa using hx))
   (by simp[execOp,ho,Instr.alloc,hzv,newVar,newRow]) (zyS (by simpa using h1.symm) (fun i d x hd hx=>h3 i d x hd (by simpa using hx)) hb)
 ·cases hz
theorem Sat.row{i r es:Nat}{rows:List (List AV)}{row:List AV}{b cap es':Nat}(h:Sat H F Z st.mem w)(hi:st.mem[i]? =some (.arr es rows))(hr:rows[r]? =some row)
 (hb:Z[i]? =some (some (b,es',cap))):
 es'=es/\∃cells elem,w.heap[b]? =some (.cells cells elem (0,0))/\cells.size=cap*es/\rows.length<=cap/\row.length=es/\
  ∀(j:Nat) c,row[j]? =some c->c.isCell=true/\∃v,cells[r*es+j]? =some v/\Rep H Z c v:=by
 obtain⟨h1,cells,elem,h2,h3,h4,h5,h6,h7,_⟩:=h.ent i _ _ hi hb;exact⟨h1,cells,elem,h2,h3,h4,h5 row (ygd hr),fun j c hj=>⟨h6 row (ygd hr) c (ygd hj),h7 r row j c hr hj⟩⟩
def znR(P:Program)(H:Hp)(Z:Bt)(o:Oper)(a:Act)(w:World)(v:AV):Prop:=∃x,(execOp a.eval o).run P w=.ok (.value x) w/\Rep H Z v x
theorem znR.good{v:AV}(g:znR P H Z o a w v)(h:Rel H F Z N st a w):zcH P H F Z o a w v st.mem:=let⟨_,h1,h2⟩:=g;.same h h1 h2
theorem zen{b o:Nat}{cells:Array Value}{elem:TypeId}{fz:Nat×Nat}{v:Value}(hb:w.heap[b]? =some (.cells cells elem fz))(hv:cells[o]? =some v):
 w.cell? ⟨b,o,none⟩=some v:=by rw[cell_of_row w b o cells elem fz hb];exact hv
theorem zfb{x:Ar}{y:Operand}{t:TypeId}{c:AV}{cs:List AV}(h:Rel H F Z N st a w)(hc:zah x y=true)(ho:o.op=.load t y)(ha:znT P t=some false)
 (hx:ar st.env x=.ip (c:: cs)):znR P H Z o a w c:=by
 have r:=h.ar hc;rw[hx]at r;generalize he:a.eval y=av at r;cases r with
 | @ip _ _ b o' cells elem fz f hH hcs hcell hrep=>have h0:=hcs 0 (by simp);have hl:=zen (w:=w) (h.sat.hH _ _ hH) h0;refine Exists.intro (f 0) ⟨?_,((hrep 0 c rfl).mono (.refl _) (by intro i x hx;simp at hx))⟩;simp only[Nat.add_zero]at hl;simp[execOp,ho,he,Instr.loadAt,Instr.sureAddr,loadVar,zha ha,hl]
theorem zfc{x:Ar}{y:Operand}{t:TypeId}{c:AV}{i r off es:Nat}{rows:List (List AV)}{row:List AV}(h:Rel H F Z N st a w)(hc:zah x y=true)(ho:o.op=.load t y)
 (ha:znT P t=some false)(hx:ar st.env x=.mp i r off)(hi:st.mem[i]? =some (.arr es rows))(hr:rows[r]? =some row)(hj:row[off]? =some c):znR P H Z o a w c:=by
 have rp:=h.ar hc;rw[hx]at rp;generalize he:a.eval y=av at rp;cases rp with
 | @mp _ _ _ _ b es' capT hβ=>obtain⟨rfl,cells,elem,h2,h3,h4,h5,h6⟩:=Sat.row h.sat hi hr hβ;obtain⟨_,v,hv,hrep⟩:=h6 off c hj;have hl:=zen (w:=w) h2 hv;refine Exists.intro (v) ⟨?_,hrep⟩;simp[execOp,ho,he,Instr.loadAt,Instr.sureAddr,loadVar,zha ha,hl]
theorem zfd{x:Ar}{y:Operand}{t:TypeId}{n:Nat}{cs:List AV}(h:Rel H F Z N st a w)(hc:zah x y=true)(ho:o.op=.load t y)(ha:znT P t=some true)(hz:szB P t=some n)
 (hx:ar st.env x=.ip cs)(hn:n<=cs.length):znR P H Z o a w (.agg (cs.take n)):=by
 have r:=h.ar hc;rw[hx]at r;generalize he:a.eval y=av at r;cases r with
 | @ip _ _ b o' cells elem fz f hH hcs hcell hrep=>
  have hl:=run_loadCells (P:=P) w ⟨b,o',none⟩ n f (fun j hj=>by rw[zbI];exact zen (h.sat.hH _ _ hH) (hcs j (by omega)))
  refine Exists.intro (.agg ((List.range n).map f).toArray) ⟨?_,(.agg ?_ (fun c hc=>hcell c (List.mem_of_mem_take hc)) fun i c v hi hv=>?_)⟩
  ·simp[execOp,ho,he,Instr.loadAt,Instr.sureAddr,loadVar,zha ha,zci hz,hl]
  ·simp;omega
  ·have hin:i<n:=by have:=(yga.1 hi).1;simp at this;omega
   have hi':cs[i]? =some c:=by rw[List.getElem?_take]at hi;simpa[hin]using hi
   simp[hin]at hv;subst hv;exact(hrep i c hi').mono (.refl _) (by intro i x hx;simp at hx)
theorem zfe{x:Ar}{y:Operand}{t:TypeId}{n i r off es:Nat}{rows:List (List AV)}{row:List AV}(h:Rel H F Z N st a w)(hc:zah x y=true)(ho:o.op=.load t y)
 (ha:znT P t=some true)(hz:szB P t=some n)(hx:ar st.env x=.mp i r off)(hi:st.mem[i]? =some (.arr es rows))(hr:rows[r]? =some row)(hn:off+n<=row.length):
 znR P H Z o a w (.agg ((row.drop off).take n)):=by
 have rp:=h.ar hc;rw[hx]at rp;generalize he:a.eval y=av at rp;cases rp with
 | @mp _ _ _ _ b es' capT hβ=>
  obtain⟨rfl,cells,elem,h2,h3,h4,h5,h6⟩:=Sat.row h.sat hi hr hβ;obtain⟨vs,hvl,hvs⟩:=zgT (p:=fun j v=>cells[r*es'+(off+j)]? =some v/\∀c,row[off+j]? =some c->c.isCell=true/\Rep H Z c v) n (fun j hj=>by
   have hlt:off+j<row.length:=by omega
   obtain⟨hc1,v,hv,hrep⟩:=h6 (off+j) row[off+j] (ygb hlt);exact⟨v,hv,fun c hc=>by rw[ygb hlt]at hc;cases hc;exact⟨hc1,hrep⟩⟩)
  have hl:=run_loadCells_list (P:=P) w ⟨b,r*es'+off,none⟩ vs (fun j v hj=>by rw[zbI];refine zen h2 ?_;rw[Nat.add_assoc];exact(hvs j v hj).1)
  rw[hvl]at hl;refine Exists.intro (.agg vs.toArray) ⟨?_,(.agg ?_ (fun c hc=>?_) fun k c v hk hv=>?_)⟩
  ·simp[execOp,ho,he,Instr.loadAt,Instr.sureAddr,loadVar,zha ha,zci hz,hl]
  ·simp;omega
  ·obtain⟨k,hk,rfl⟩:=List.getElem_of_mem hc;simp at hk;simp only[List.getElem_take,List.getElem_drop];exact(h6 (off+k) _ (ygb (by omega))).1
  ·have hkn:k<n:=by have:=(yga.1 hk).1;simp at this;omega
   rw[List.getElem?_take]at hk;simp[hkn]at hk;exact((hvs k v (by simpa using hv)).2 c hk).2
end
end Go.Fw
namespace Go.Fw
open Go
section
variable {P:Program}{H:Hp}{F:Fr}{Z:Bt}{N:Nat}{st:St}{a:Act}{w:World}{o:Oper}
theorem zzx(k:IntKind)(n:Int)(h:InR k n):k.wrap n=n:=by
 unfold InR at h;cases k
 ·exact IntWalk.i8_in n h
 ·exact IntWalk.i16_in n h
 ·exact IntWalk.i32_in n h
 ·exact IntWalk.i64_in n h
 ·exact IntWalk.u8_in n h
 ·exact IntWalk.u16_in n h
 ·exact IntWalk.u32_in n h
 ·exact IntWalk.u64_in n h
theorem znI(k:IntKind)(n:Int):InR k (k.wrap n):=by unfold InR IntKind.wrap IntKind.min IntKind.max;cases k<;>simp[IntKind.bits,IntKind.signed]<;>(first|omega|(split<;>omega))
theorem zzu(k:IntKind)(x y:Int)(h:InR k x):InR k (x.tmod y):=by
 have hk:k.min<=0/\0<=k.max:=by cases k<;>decide
 unfold InR at *;rcases Int.le_total 0 x with hx|hx
 ·have h1:=Int.tmod_nonneg y hx;have h2:x.tmod y<=x:=by
   obtain⟨n,rfl⟩:=Int.eq_ofNat_of_zero_le hx;have:=Int.natAbs_tmod n y;rcases Int.le_total 0 ((n:Int).tmod y)with h3|h3
   ·have h4:(((n:Int).tmod y).natAbs:Int)=(n:Int).tmod y:=Int.natAbs_of_nonneg h3;rw[this]at h4;have h5:n % y.natAbs<=n:=Nat.mod_le _ _;simp at h4;omega
   ·omega
  omega
 ·have h1:x.tmod y= -((-x).tmod y):=by rw[Int.neg_tmod];omega
  have h2:=Int.tmod_nonneg y (show 0<=-x by omega);have h3:(-x).tmod y<=-x:=by obtain⟨n,hn⟩:=Int.eq_ofNat_of_zero_le (show 0<=-x by omega);rw[hn];have:=Int.natAbs_tmod n y;have h4:(((n:Int).tmod y).natAbs:Int)=(n:Int).tmod y:=Int.natAbs_of_nonneg (Int.tmod_nonneg y (by omega));rw[this]at h4;have h5:n % y.natAbs<=n:=Nat.mod_le _ _;simp at h4;omega
  omega
theorem zdz{k:IntKind}{n:Int}(hs:(zbF k n).1):Rep H Z (zbF k n).2 (.int k (k.wrap n)):=by
 cases k<;>simp only[zbF]at hs|-<;>first
  | (rw[zzx _ _ hs];exact .int hs)
  |exact .int (znI _ n)
theorem zqJ{s:List UInt8}:(ByteArray.mk s.toArray).toList=s:=ByteArray.toList_mk s
theorem ztm{op:BinOp}{x y:AV}{u v:Value}{p:Prop}{r:AV}(t:TypeId)(hx:Rep H Z x u)(hy:Rep H Z y v)(he:ziH op x y=some (p,r))(hs:p):
 ∃z,(binOp op t u v).run P w=.ok z w/\Rep H Z r z/\(∀X Y,eqGuard op t X Y u v=pure ()):=by
 unfold ziH at he;split at he
 ·rename_i k m k' n;obtain⟨rfl,hm⟩:=zct hx;obtain⟨rfl,hn⟩:=zct hy;have hg:∀X Y,eqGuard op t X Y (.int k m) (.int k' n)=pure ():=by intro X Y;unfold eqGuard;split<;>rfl
  cases op<;>simp only[reduceCtorEq,Option.some.injEq,Prod.mk.injEq]at he;case add=>obtain⟨rfl,rfl⟩:=he;obtain⟨rfl,hs⟩:=hs;exact⟨_,by simp[binOp,Op.intArith],zdz hs,hg⟩
  case sub=>obtain⟨rfl,rfl⟩:=he;obtain⟨rfl,hs⟩:=hs;exact⟨_,by simp[binOp,Op.intArith],zdz hs,hg⟩
  case mul=>obtain⟨rfl,rfl⟩:=he;obtain⟨rfl,hs⟩:=hs;exact⟨_,by simp[binOp,Op.intArith],zdz hs,hg⟩
  case quo=>obtain⟨rfl,rfl⟩:=he;obtain⟨rfl,h0,hs⟩:=hs;exact⟨_,by simp[binOp,Op.intDiv,h0],zdz hs,hg⟩
  case rem=>obtain⟨rfl,rfl⟩:=he;obtain⟨rfl,h0⟩:=hs;exact⟨.int k (m.tmod n),by simp[binOp,Op.intDiv,h0],.int (zzu k m n hm),hg⟩
  case eql=>obtain⟨rfl,rfl⟩:=he;subst hs;exact⟨.bool (m==n),by simp[binOp,Op.intCmp],.bool,hg⟩
  case neq=>obtain⟨rfl,rfl⟩:=he;subst hs;exact⟨.bool (m !=n),by simp[binOp,Op.intCmp],.bool,hg⟩
  case lss=>obtain⟨rfl,rfl⟩:=he;subst hs;exact⟨.bool (decide (m<n)),by simp[binOp,Op.intCmp],.bool,hg⟩
  case leq=>obtain⟨rfl,rfl⟩:=he;subst hs;exact⟨.bool (decide (m<=n)),by simp[binOp,Op.intCmp],.bool,hg⟩
  case gtr=>obtain⟨rfl,rfl⟩:=he;subst hs;exact⟨.bool (decide (m>n)),by simp[binOp,Op.intCmp],.bool,hg⟩
  case geq=>obtain⟨rfl,rfl⟩:=he;subst hs;exact⟨.bool (decide (m>=n)),by simp[binOp,Op.intCmp],.bool,hg⟩
  case xor=>obtain⟨rfl,rfl⟩:=he;subst hs;exact⟨_,by simp[binOp,Op.intBits],.int (znI _ _),hg⟩
  case and=>obtain⟨rfl,rfl⟩:=he;subst hs;exact⟨_,by simp[binOp,Op.intBits],.int (znI _ _),hg⟩
 ·rename_i s t';obtain⟨rfl,hm⟩:=zcu hx;obtain⟨rfl,hn⟩:=zcu hy;have hg:∀X Y,eqGuard op t X Y (.string ⟨s.toArray⟩) (.string ⟨t'.toArray⟩)=pure ():=by intro X Y;unfold eqGuard;split<;>rfl
  have e1:=zqJ (s:=s);have e2:=zqJ (s:=t');have e3:∀a b:List UInt8,(decide (a=b))=(a==b):=by intro a b;rw[Bool.eq_iff_iff];simp
  cases op<;>simp only[reduceCtorEq,Option.some.injEq,Prod.mk.injEq]at he;case add=>
   obtain⟨rfl,rfl⟩:=he;have hsz:¬((((ByteArray.mk s.toArray).size+(ByteArray.mk t'.toArray).size:Nat):Int)>IntKind.i64.max):=by
    have h2:IntKind.i64.max=9223372036854775807:=by decide
    simp[ByteArray.size,h2];unfold BIG at hs;omega
   refine⟨.string ⟨(s++t').toArray⟩,?_,.str (by simpa using hs),hg⟩;simp only[binOp,Op.stringOp];rw[if_neg hsz];simp;apply ByteArray.ext;simp
  case eql=>obtain⟨rfl,rfl⟩:=he;exact⟨.bool (s==t'),by simp[binOp,Op.stringOp,e1,e2],.bool,hg⟩
  case neq=>obtain⟨rfl,rfl⟩:=he;exact⟨.bool (s !=t'),by simp[binOp,Op.stringOp,e1,e2,bne],.bool,hg⟩
  case lss=>obtain⟨rfl,rfl⟩:=he;exact⟨_,by simp[binOp,Op.stringOp,e1,e2],.bool,hg⟩
  case leq=>obtain⟨rfl,rfl⟩:=he;exact⟨_,by simp[binOp,Op.stringOp,e1,e2],.bool,hg⟩
  case gtr=>obtain⟨rfl,rfl⟩:=he;exact⟨.bool (!(Op.bytesLess s t' ||s==t')),by simp[binOp,Op.stringOp,e1,e2],.bool,hg⟩
  case geq=>obtain⟨rfl,rfl⟩:=he;exact⟨_,by simp[binOp,Op.stringOp,e1,e2],.bool,hg⟩
 ·cases he
theorem zzg{op:BinOp}{x y:Ar}{x' y':Operand}{t t':TypeId}{p:Prop}{r:AV}(h:Rel H F Z N st a w)(hx:zah x x'=true)(hy:zah y y'=true)
 (ho:o.op=.binOp op t x' y' t')(he:ziH op (ar st.env x) (ar st.env y)=some (p,r))(hs:p):zcH P H F Z o a w r st.mem:=by
 obtain⟨z,hz,hr,hg⟩:=ztm (P:=P) (w:=w) t (h.ar hx) (h.ar hy) he hs;exact .same h (by simp[execOp,ho,hg,hz]) hr
theorem zuL{op:BinOp}{x y:Ar}{x' y':Operand}{t t':TypeId}{u v:Bool}(h:Rel H F Z N st a w)(hx:zah x x'=true)(hy:zah y y'=true)(ht:zq8 P t=true)
 (ho:o.op=.binOp op t x' y' t')(h1:ar st.env x=.bool u)(h2:ar st.env y=.bool v):
 (op=.eql->zcH P H F Z o a w (.bool (u==v)) st.mem)/\(op=.neq->zcH P H F Z o a w (.bool (u !=v)) st.mem):=by
 have r1:=h.ar hx;rw[h1]at r1;have e1:=zdg r1;have r2:=h.ar hy;rw[h2]at r2;have e2:=zdg r2;have hu:=zst ht;have hq:=run_equal_bool (P:=P) w t u v hu;constructor
 ·rintro rfl;refine .same (x:=.bool (u==v)) h ?_ .bool;have hg:eqGuard .eql t x' y' (.bool u) (.bool v)=pure ():=by unfold eqGuard;rfl
  have hb:binOp .eql t (.bool u) (.bool v)=(do pure (.bool (<-Op.equal t (.bool u) (.bool v)))):=rfl;simp only[execOp,ho,e1,e2,hg,hb,Sem.run_bind,hq,Sem.run_pure,Result.andThen_ok]
 ·rintro rfl;refine .same (x:=.bool (u !=v)) h ?_ .bool;have hg:eqGuard .neq t x' y' (.bool u) (.bool v)=pure ():=by unfold eqGuard;rfl
  have hb:binOp .neq t (.bool u) (.bool v)=(do pure (.bool (!(<-Op.equal t (.bool u) (.bool v))))):=rfl;simp only[execOp,ho,e1,e2,hg,hb,Sem.run_bind,hq,Sem.run_pure,Result.andThen_ok,bne]
theorem zuO{ne:Bool}{x:Ar}{x':Operand}{t t':TypeId}{f:FuncId}{b:Bool}(h:Rel H F Z N st a w)(hx:zah x x'=true)(ht:ztE P t=true)
 (ho:o.op=.binOp (bif ne then .neq else .eql) t x' (.const .nilIface) t')(h1:ar st.env x=.fn f [.bool b])(hf:f=ERR):zcH P H F Z o a w (.bool (b==ne)) st.mem:=by
 have r1:=h.ar hx;rw[h1]at r1;obtain⟨d,hu⟩:=zu3 ht;have key:∀u,erB u b->(Op.equal t u .nilIface).run P w=.ok (!b) w/\eqGuard (bif ne then .neq else .eql) t x' (.const .nilIface) u .nilIface=pure ():=fun u hu'=>by
  constructor
  ·obtain⟨D,hD⟩:∃D,Op.maxDepth=D+1:=⟨_,rfl⟩
   unfold Op.equal;rw[hD];cases u<;>simp only[erB]at hu'<;>subst hu'<;>simp[Op.equalIn,run_underlying hu]
  ·cases u<;>simp only[erB]at hu'<;>subst hu'<;>cases ne<;>first|rfl|(unfold eqGuard;simp)
 generalize hg:a.eval x'=u at r1;cases r1 with
 | @er _ _ _ _ b' _ hx' _ hr=>
  obtain rfl:b'=b:=by have:=zdg (hr 0 _ rfl);simpa using this
  obtain⟨k1,k2⟩:=key u hx';refine .same (x:=.bool (b'==ne)) h ?_ .bool;have ev:a.eval (.const .nilIface)=.nilIface:=rfl;have hb:∀op,op=BinOp.eql\/op=BinOp.neq->binOp op t u .nilIface=(match op with|.eql=>(do pure (.bool (<-Op.equal t u .nilIface)))|_=>(do pure (.bool (!(<-Op.equal t u .nilIface))))):=fun op hop=>by rcases hop with rfl|rfl<;>cases u<;>simp only[erB]at hx'<;>rfl
  cases ne
  ·simp only[execOp,ho,hg,ev,cond_false]at k2|-;simp only[k2,hb .eql (.inl rfl),Sem.run_bind,k1,Sem.run_pure,Result.andThen_ok];cases b'<;>rfl
  ·simp only[execOp,ho,hg,ev,cond_true]at k2|-;simp only[k2,hb .neq (.inr rfl),Sem.run_bind,k1,Sem.run_pure,Result.andThen_ok];cases b'<;>rfl
 | @fn _ _ _ fst vs hb hl hrep=>subst hf;have h2:vs= #[]/\Nat.beq ERR ERR=false:=hb;exact absurd h2.2 (by simp)
theorem zzo{x:Ar}{y:Operand}{t:TypeId}{b:Bool}(h:Rel H F Z N st a w)(hc:zah x y=true)(ho:o.op=.unOp .not t y)(hx:ar st.env x=.bool b):
 zcH P H F Z o a w (.bool (!b)) st.mem:=by
 have r:=h.ar hc;rw[hx]at r;have e:=zdg r;exact .same (x:=.bool (!b)) h (by simp[execOp,ho,e,Op.unary]) .bool
theorem zzn{x:Ar}{y:Operand}{t:TypeId}{k:IntKind}{n:Int}(h:Rel H F Z N st a w)(hc:zah x y=true)(ho:o.op=.unOp .neg t y)(hx:ar st.env x=.int k n)
 (hs:(zbF k (0-n)).1):zcH P H F Z o a w (zbF k (0-n)).2 st.mem:=by
 have r:=h.ar hc;rw[hx]at r;have e:=(zct r).1;exact .same (x:=.int k (k.wrap (0-n))) h (by simp[execOp,ho,e,Op.unary,Op.intArith]) (zdz hs)
theorem zwJ{x:Ar}{y:Operand}{s t:TypeId}{k k':IntKind}{n:Int}(h:Rel H F Z N st a w)(hc:zah x y=true)(ho:o.op=.convert s t y)(ht:zh7 P t k=true)
 (hsrc:∃d,P.underlying s=some d)(hx:ar st.env x=.int k' n):zcH P H F Z o a w (.int k (k.wrap n)) st.mem:=by
 have r:=h.ar hc;rw[hx]at r;have e:=(zct r).1;obtain⟨d,hd⟩:=hsrc;refine .same (x:=.int k (k.wrap n)) h ?_ (.int (znI k n));simp only[execOp,ho,e,convert,run_underlying hd,run_underlying (zld ht),Sem.run_bind,Result.andThen_ok];cases d<;>simp[Conv.intToInt]
theorem zrw{x:Ar}{y:Operand}(h:Rel H F Z N st a w)(hc:zah x y=true)(ho:o.op=.nilCheck y)
 (hx:(∃cs,ar st.env x=.ip cs)\/(∃i r f,ar st.env x=.mp i r f)):zcH P H F Z o a w (ar st.env x) st.mem:=by
 have r:=h.ar hc;generalize he:a.eval y=av at r;rcases hx with⟨cs,hx⟩|⟨i,r',f,hx⟩
 ·rw[hx]at r|-;cases r with
  |ip f hH hcs hcell hrep=>exact .same h (by simp[execOp,ho,he]) (.ip f hH hcs hcell hrep)
 ·rw[hx]at r|-;cases r with
  |mp hβ=>exact .same h (by simp[execOp,ho,he]) (.mp hβ)
theorem zxD{x:Ar}{y:Operand}{t t':TypeId}{f off n:Nat}(h:Rel H F Z N st a w)(hc:zah x y=true)(ho:o.op=.fieldAddr t y f)(hf:zgB P t f=some (off,t'))
 (hz:szB P t'=some n)(hn:0<n):
 (∀cs,ar st.env x=.ip cs->off<=cs.length->zcH P H F Z o a w (.ip (cs.drop off)) st.mem)/\
 (∀i r f',ar st.env x=.mp i r f'->zcH P H F Z o a w (.mp i r (f'+off)) st.mem):=by
 obtain⟨fs,fd,h1,h2,h3,h4⟩:=zjL hf;have hn0:n≠0:=by omega
 have run:∀b off',a.eval y=.pointer (some ⟨b,off',none⟩)->(execOp a.eval o).run P w=.ok (.value (.pointer (some ⟨b,off'+off,none⟩))) w:=by intro b off' he;simp[execOp,ho,he,Instr.fieldAt,Instr.sureAddr,fieldPlace,run_underlying h1,h2,h4,zci hz,hn0,h3,zbI]
 constructor
 ·intro cs hx hl;have r:=h.ar hc;rw[hx]at r;generalize he:a.eval y=av at r;cases r with
  | @ip _ _ b o' cells elem fz g hH hcs hcell hrep=>
   refine .same h (run b o' he) (.ip (fun j=>g (off+j)) hH (fun j hj=>?_) (fun c hc=>hcell c (List.mem_of_mem_drop hc)) fun j c hj=>?_)
   ·have:=hcs (off+j) (by simp at hj;omega);rw[Nat.add_assoc];exact this
   ·rw[List.getElem?_drop]at hj;exact hrep (off+j) c hj
 ·intro i r' f' hx;have r:=h.ar hc;rw[hx]at r;generalize he:a.eval y=av at r;cases r with
  | @mp _ _ _ _ b es capT hβ=>refine .same h (run b _ he) ?_;rw[Nat.add_assoc];exact .mp hβ
theorem zlI{x:Ar}{y:Operand}{t t':TypeId}{f off:Nat}{cs:List AV}{c:AV}(h:Rel H F Z N st a w)(hc:zah x y=true)(ho:o.op=.field t y f)
 (hf:zgB P t f=some (off,t'))(ha:znT P t'=some false)(hx:ar st.env x=.agg cs)(hj:cs[off]? =some c):zcH P H F Z o a w c st.mem:=by
 obtain⟨fs,fd,h1,h2,h3,h4⟩:=zjL hf;have r:=h.ar hc;rw[hx]at r;generalize he:a.eval y=av at r;cases r with
 | @agg _ _ vs hl hcell hrep=>
  have hlt:off<vs.size:=by have:=(yga.1 hj).1;omega
  refine .same (x:=vs[off]) h ?_ (hrep off c _ hj (Array.getElem?_eq_getElem hlt));simp[execOp,ho,he,Instr.field,run_underlying h1,h2,h4,asAgg,part,zha ha,h3,hlt]
theorem zlJ{x:Ar}{y:Operand}{t t':TypeId}{f off n:Nat}{cs:List AV}(h:Rel H F Z N st a w)(hc:zah x y=true)(ho:o.op=.field t y f)
 (hf:zgB P t f=some (off,t'))(ha:znT P t'=some true)(hz:szB P t'=some n)(hx:ar st.env x=.agg cs)(hn:off+n<=cs.length):
 zcH P H F Z o a w (.agg ((cs.drop off).take n)) st.mem:=by
 obtain⟨fs,fd,h1,h2,h3,h4⟩:=zjL hf;have r:=h.ar hc;rw[hx]at r;generalize he:a.eval y=av at r;cases r with
 | @agg _ _ vs hl hcell hrep=>
  refine .same (x:=.agg (vs.extract off (off+n))) h ?_ (.agg ?_ (fun c hc=>hcell c (List.mem_of_mem_drop (List.mem_of_mem_take hc))) fun k c v hk hv=>?_)
  ·simp[execOp,ho,he,Instr.field,run_underlying h1,h2,h4,asAgg,part,zha ha,h3,zci hz]
  ·simp;omega
  ·have hkn:k<n:=by have:=(yga.1 hk).1;simp at this;omega
   rw[List.getElem?_take]at hk;simp[hkn]at hk;rw[Array.getElem?_extract]at hv;split at hv
   ·exact hrep (off+k) c v hk hv
   ·cases hv
theorem zui{rows:List (List AV)}{i:Nat}(h:i<rows.length):nth rows i∈rows:=ygd (zxt h)
theorem zxE{x i:Ar}{y j:Operand}{t e:TypeId}{es:Nat}(h:Rel H F Z N st a w)(hc:zah x y=true)(hi:zah i j=true)(ho:o.op=.indexAddr t y j)
 (he:zbZ P t=some e)(hz:szB P e=some es):
 (∀es' rows k n,ar st.env x=.sl es' rows->ar st.env i=.int k n->es'=es/\0<=n/\n<rows.length->zcH P H F Z o a w (.ip (nth rows n.toNat)) st.mem)/\
 (∀m es' off len k n,ar st.env x=.ms m es' off len->ar st.env i=.int k n->es'=es/\0<=n/\n<len->zcH P H F Z o a w (.mp m (off+n.toNat) 0) st.mem):=by
 have hu:=zaJ he;have ri:=h.ar hi;constructor
 ·intro es' rows k n hx hn ⟨h0,h1,h2⟩;subst h0;rw[hn]at ri;have ei:=(zct ri).1;have r:=h.ar hc;rw[hx]at r;generalize hey:a.eval y=av at r;have hlt:n.toNat<rows.length:=by omega
  cases r with
  | @sl _ _ _ a' len cap b o' cells f hlen hcap hbig hes hblk hcs hcell hrep=>
   obtain⟨rfl,elem,fz,hH⟩:=hblk (by intro e;subst e;simp at h2;omega);refine .same (x:=.pointer (some ⟨b,o'+n.toNat*es',none⟩)) h ?_ (.ip (f n.toNat) hH (fun q hq=>?_) (fun c hcm=>hcell _ (zui hlt) c hcm) fun q c hq=>hrep n.toNat _ q c (zxt hlt) hq)
   ·simp[execOp,ho,hey,ei,Instr.indexAt,asIntOf,run_underlying hu,h1,show n<(len:Int) by omega,zci hz,zbI]
   ·have:=hes _ (zui hlt);exact hcs n.toNat q hlt (by omega)
 ·intro m es' off len k n hx hn ⟨h0,h1,h2⟩;subst h0;rw[hn]at ri;have ei:=(zct ri).1;have r:=h.ar hc;rw[hx]at r;generalize hey:a.eval y=av at r;cases r with
  | @ms _ _ _ _ _ b capT cap hβ hcap hlen=>
   have rm:Rep H Z (.mp m (off+n.toNat) 0) (.pointer (some ⟨b,(off+n.toNat)*es'+0,none⟩)):=.mp hβ;have e2:off*es'+n.toNat*es'=(off+n.toNat)*es'+0:=by rw[Nat.add_mul];rfl
   refine .same (x:=.pointer (some ⟨b,off*es'+n.toNat*es',none⟩)) h ?_ (by rw[e2];exact rm);simp[execOp,ho,hey,ei,Instr.indexAt,asIntOf,run_underlying hu,h1,h2,zci hz,zbI]
  |ms0=>omega
theorem zzj{x i:Ar}{y j:Operand}{t:TypeId}{s:List UInt8}{k:IntKind}{n:Int}(h:Rel H F Z N st a w)(hc:zah x y=true)(hi:zah i j=true)(ho:o.op=.index t y j)
 (ht:zh8 P t=true)(hx:ar st.env x=.str s)(hn:ar st.env i=.int k n)(h0:0<=n)(h1:n<s.length):
 zcH P H F Z o a w (.int .u8 (s.getD n.toNat 0).toNat) st.mem:=by
 have r:=h.ar hc;rw[hx]at r;have e:=(zcu r).1;have ri:=h.ar hi;rw[hn]at ri;have ei:=(zct ri).1;have hlt:n.toNat<s.length:=by omega
 have hg:(ByteArray.mk s.toArray)[n.toNat]? =some (s.getD n.toNat 0):=by rw[getElem?_pos _ _ (by simpa[ByteArray.size]using hlt)];simp[ByteArray.getElem_eq_getElem_data,hlt]
 refine .same (x:=.int .u8 (s.getD n.toNat 0).toNat) h ?_ (.int ?_)
 ·simp only[execOp,ho,e,ei,Instr.index,asIntOf,run_underlying (zes ht),Sem.run_bind,Sem.run_pure,Result.andThen_ok,h0,if_true,hg]
 ·have:=(s.getD n.toNat 0).toNat_lt;have h2:IntKind.u8.min=0:=by decide
  have h3:IntKind.u8.max=255:=by decide
  rw[h2,h3];omega
theorem zh5{n:Nat}(h:n<=BIG):IntKind.i64.min<=(n:Int)/\(n:Int)<=IntKind.i64.max:=by
 have h1:IntKind.i64.min= -9223372036854775808:=by decide
 have h2:IntKind.i64.max=9223372036854775807:=by decide
 rw[h1,h2];unfold BIG at h;omega
theorem zwK{x:Ar}{c:Call}{y:Operand}{t:TypeId}{s:List UInt8}(h:Rel H F Z N st a w)(hc:zah x y=true)(ho:o.op=.call c)(hb:c.callee=.builtin .len)
 (ha:c.args.toList=[y])(hat:c.argTypes.toList=[t])(ht:zh8 P t=true)(hx:ar st.env x=.str s):zcH P H F Z o a w (.int .i64 s.length) st.mem:=by
 have r:=h.ar hc;rw[hx]at r;obtain⟨e,hbig⟩:=zcu r;have ha':c.args= #[y]:=by rw[<-Array.toArray_toList (xs:=c.args),ha]
 have hat':c.argTypes= #[t]:=by rw[<-Array.toArray_toList (xs:=c.argTypes),hat]
 refine .same (x:=.int .i64 s.length) h ?_ (.int (zh5 hbig));have hsz:(ByteArray.mk s.toArray).size=s.length:=by simp[ByteArray.size]
 simp[execOp,ho,resolve,hb,ha',hat',invoke,builtin,Builtin.len_,run_underlying (zes ht),e,goInt,hsz]
theorem znr{x:Ar}{c:Call}{y:Operand}{t e:TypeId}(h:Rel H F Z N st a w)(hc:zah x y=true)(ho:o.op=.call c)(hb:c.callee=.builtin .len)
 (ha:c.args.toList=[y])(hat:c.argTypes.toList=[t])(ht:zbZ P t=some e):
 (∀es rows,ar st.env x=.sl es rows->zcH P H F Z o a w (.int .i64 rows.length) st.mem)/\
 (∀i es off len,ar st.env x=.ms i es off len->zcH P H F Z o a w (.int .i64 len) st.mem)/\
 (ar st.env x=.e0->zcH P H F Z o a w (.int .i64 0) st.mem):=by
 have ha':c.args= #[y]:=by rw[<-Array.toArray_toList (xs:=c.args),ha]
 have hat':c.argTypes= #[t]:=by rw[<-Array.toArray_toList (xs:=c.argTypes),hat]
 have run:∀b n cap,a.eval y=.slice b n cap->(execOp a.eval o).run P w=.ok (.value (.int .i64 n)) w:=by intro b n cap he;simp[execOp,ho,resolve,hb,ha',hat',invoke,builtin,Builtin.len_,run_underlying (zaJ ht),he,goInt]
 have r:=h.ar hc;refine⟨fun es rows hx=>?_,fun i es off len hx=>?_,fun hx=>?_⟩
 ·rw[hx]at r;generalize he:a.eval y=av at r;cases r with
  |sl b o' cells f hlen hcap hbig hes hblk hcs hcell hrep=>subst hlen;exact .same h (run _ _ _ he) (.int (zh5 hbig))
 ·rw[hx]at r;generalize he:a.eval y=av at r;cases r with
  |ms hβ h1 h2 hbig=>exact .same h (run _ _ _ he) (.int (zh5 hbig))
  |ms0 hβ=>exact .same h (run _ _ _ he) (.int (zh5 (Nat.zero_le _)))
 ·rw[hx]at r;generalize he:a.eval y=av at r;cases r with
  |e0=>exact .same h (run _ _ _ he) (.int (zh5 (n:=0) (Nat.zero_le _)))
theorem zxG{x y:Ar}{c:Call}{x' y':Operand}{b:Bool}{k:IntKind}{m n:Int}(h:Rel H F Z N st a w)(hx:zah x x'=true)(hy:zah y y'=true)(ho:o.op=.call c)
 (hb:c.callee=.builtin (bif b then .max else .min))(ha:c.args.toList=[x',y'])(ex:ar st.env x=.int k m)(ey:ar st.env y=.int k n):
 zcH P H F Z o a w (.int k (bif b then max m n else min m n)) st.mem:=by
 have ha':c.args= #[x',y']:=by rw[<-Array.toArray_toList (xs:=c.args),ha]
 have rx:=h.ar hx;rw[ex]at rx;have ry:=h.ar hy;rw[ey]at ry;generalize hex:a.eval x'=ax at rx;generalize hey:a.eval y'=ay at ry;cases rx with
 |int h1=>
  cases ry with
  |int h2=>
   refine .same (x:=.int k (bif b then max m n else min m n)) h ?_ (.int ?_)
   ·cases b
    ·simp only[cond_false]at hb|-;have e:(if n<m then n else m)=min m n:=by simp only[Int.min_def];split<;>split<;>omega
     simp[execOp,ho,resolve,hb,ha',invoke,builtin,hex,hey,run_min_int2,e]
    ·simp only[cond_true]at hb|-;have e:(if n>m then n else m)=max m n:=by simp only[Int.max_def];split<;>split<;>omega
     simp[execOp,ho,resolve,hb,ha',invoke,builtin,hex,hey,run_max_int2,e]
   ·cases b
    ·simp only[cond_false,Int.min_def];split<;>assumption
    ·simp only[cond_true,Int.max_def];split<;>assumption
end
end Go.Fw
namespace Go.Fw
open Go
def zc6(cur:Array Value)(p:Nat)(vs:List Value):Array Value:=(cur.toList.take p++vs++cur.toList.drop (p+vs.length)).toArray
theorem ze1{cur:Array Value}{p:Nat}{vs:List Value}(h:p+vs.length<=cur.size):(zc6 cur p vs).size=cur.size:=by simp[zc6];omega
theorem zbM{cur:Array Value}{p:Nat}{vs:List Value}(h:p+vs.length<=cur.size)(j:Nat):
 (zc6 cur p vs)[j]? =if j<p then cur[j]? else if j<p+vs.length then vs[j-p]? else cur[j]?:=by
 simp only[zc6,List.getElem?_toArray,List.append_assoc];rw[List.getElem?_append];have hl:(cur.toList.take p).length=p:=by simp;omega
 rw[hl];split
 ·rename_i hj;rw[List.getElem?_take];simp[hj]
 ·rw[List.getElem?_append];split
  ·rename_i h1 h2;rw[if_pos (by omega)]
  ·rename_i h1 h2;rw[if_neg (by omega),List.getElem?_drop];have:p+vs.length+(j-p-vs.length)=j:=by omega
   rw[this];simp
theorem zuF(w:World)(b:Nat)(o o':Obj):zlv (zlv w b o) b o'=zlv w b o':=by simp[zlv,Array.setIfInBounds_setIfInBounds]
theorem zoX{w:World}{b i:Nat}{cur:Array Value}{t:TypeId}{fr:Nat×Nat}{v:Value}(hb:w.heap[b]? =some (.cells cur t fr)):
 w.setCell ⟨b,i,none⟩ v=zlv w b (.cells (cur.setIfInBounds i v) t fr):=by
 have hlt:=zaT hb;unfold World.setCell zlv;congr 1;apply Array.ext_getElem?;intro k;by_cases hk:b=k
 ·subst hk;rw[Array.getElem?_modify,if_pos rfl,hb];simp[hlt]
 ·simp[Array.getElem?_modify,Array.getElem?_setIfInBounds_ne hk,hk]
theorem zuE{w:World}{b:Nat}{o:Obj}(hb:w.heap[b]? =some o):zlv w b o=w:=by
 have hlt:=zaT hb;cases w with
 |mk heap tape drawn os output=>
  simp only[zlv];congr 1;apply Array.ext_getElem?;intro k;by_cases hk:b=k
  ·subst hk;rw[hb];simp[show b<heap.size from hlt]
  ·simp[Array.getElem?_setIfInBounds_ne hk]
theorem zcv{P:Program}(b:Nat)(t:TypeId):∀(vs:List Value)(p i:Nat)(cur:Array Value)(w:World),w.heap[b]? =some (.cells cur t (0,0))->
 p+i+vs.length<=cur.size->(∀v∈vs,v.oneCell'=true)->
 (storeCells ⟨b,p,none⟩ vs i).run P w=.ok () (zlv w b (.cells (zc6 cur (p+i) vs) t (0,0)))
 |[],p,i,cur,w,hb,_,_=>by
  have:zc6 cur (p+i) []=cur:=by apply Array.ext';simp[zc6]
  rw[this,zuE hb];rfl
 |v:: rest,p,i,cur,w,hb,hl,h1=>by
  have hi:p+i<cur.size:=by simp at hl;omega
  have hcell:w.cell? ⟨b,p+i,none⟩=some cur[p+i]:=by simp[World.cell?,hb,hi]
  have hfro:w.frozen? ⟨b,p+i,none⟩=false:=by simp[World.frozen?,hb]
  have hst:(store ((⟨b,p,none⟩:Addr).add i) v).run P w=.ok () (zlv w b (.cells (cur.setIfInBounds (p+i) v) t (0,0))):=by rw[zbI,run_store P w _ v _ (h1 v (by simp)),hcell];simp[hfro,zoX hb]
  have ih:=zcv (P:=P) b t rest p (i+1) (cur.setIfInBounds (p+i) v) (zlv w b (.cells (cur.setIfInBounds (p+i) v) t (0,0))) (zk8 (zaT hb))
   (by simp at hl|-;omega) (fun x hx=>h1 x (by simp[hx]))
  simp only[storeCells,Sem.run_bind,hst,Result.andThen_ok,ih,zuF];congr 3;apply Array.ext_getElem?;intro k;rw[zbM (by simp at hl|-;omega),zbM hl];simp only[yhs,Array.getElem?_setIfInBounds];simp at hl;by_cases hk:k<p+i
  ·simp[hk,show k<p+(i+1) by omega,show p+i≠k by omega]
  ·by_cases hk2:k=p+i
   ·subst hk2;simp[show p+i<p+(i+1) by omega,hi]
   ·by_cases hk3:k<p+i+(rest.length+1)
    ·simp[hk,show ¬k<p+(i+1) by omega,hk3,show k<p+(i+1)+rest.length by omega,show k-(p+i)=(k-(p+(i+1)))+1 by omega]
    ·simp[hk,show ¬k<p+(i+1) by omega,hk3,show ¬k<p+(i+1)+rest.length by omega,show p+i≠k by omega]
section
variable {P:Program}{H:Hp}{F:Fr}{Z:Bt}{N:Nat}{st:St}{a:Act}{w:World}{o:Oper}
theorem zAK{i j es r off n:Nat}(hj:j<es)(hne:i≠r)(hn:off+n<=es):i*es+j<r*es+off\/r*es+off+n<=i*es+j:=by
 rcases Nat.lt_or_gt_of_ne hne with h|h
 ·left;have:(i+1)*es<=r*es:=Nat.mul_le_mul_right _ h;rw[Nat.add_mul]at this;omega
 ·right;have:(r+1)*es<=i*es:=Nat.mul_le_mul_right _ h;rw[Nat.add_mul]at this;omega
theorem zwz{r es cap n off:Nat}(hr:r<cap)(hn:off+n<=es):r*es+off+n<=cap*es:=by have:(r+1)*es<=cap*es:=Nat.mul_le_mul_right _ hr;rw[Nat.add_mul]at this;omega
theorem zuR{x d:Ar}{y z:Operand}{t:TypeId}{n i r off es:Nat}{rows:List (List AV)}{row:List AV}(h:Rel H F Z N st a w)(hd:zah d z=true)(hc:zah x y=true)
 (ho:o.op=.store t z y)(hz:szB P t=some n)(hx:ar st.env d=.mp i r off)(hi:st.mem[i]? =some (.arr es rows))(hr:rows[r]? =some row)
 (hs:(ar st.env x).cells.length=n/\((ar st.env x).cells.all AV.isCell)=true/\off+n<=row.length/\stC (ar st.env x).cells off (row.headD .junk)=true):
 zcH P H F Z o a w .junk (st.mem.set i (.arr es (rows.set r (row.take off++(ar st.env x).cells++row.drop (off+n))))):=by
 obtain⟨hs1,hs2,hs3,hs4⟩:=hs;have rx:=h.ar hc;have hcell:∀c∈(ar st.env x).cells,c.isCell=true:=fun c hc=>List.all_eq_true.1 hs2 c hc;obtain⟨h1,h2,h3⟩:=rx.cells hcell;have rp:=h.ar hd;rw[hx]at rp;generalize he:a.eval z=av at rp;generalize hxs:(ar st.env x).cells=cs at *;cases rp with
 | @mp _ _ _ _ b es' capT hβ=>
  obtain⟨rfl,cells,elem,g2,g3,g4,g5,g6⟩:=Sat.row h.sat hi hr hβ;have hrlt:r<rows.length:=(yga.1 hr).1;have hroom:r*es'+off+(a.eval y).cells.toList.length<=cells.size:=by have:=zwz (r:=r) (es:=es') (cap:=capT) (n:=n) (off:=off) (by omega) (by omega);simp;omega
  have hlen:(a.eval y).cells.toList.length=n:=by simp;omega
  have hst:=zcv (P:=P) b elem (a.eval y).cells.toList (r*es'+off) 0 cells w g2 (by simpa using hroom) h2;simp only[Nat.add_zero]at hst;have hok:okC es' (zc6 cells (r*es'+off) (a.eval y).cells.toList) elem:=by
   obtain⟨_,cells',elem',e1,_,_,_,_,_,e7⟩:=h.sat.ent i _ _ hi hβ;rw[g2]at e1;cases e1;have e7:=e7 (by rintro rfl;simp at hr);have hcell0:(zc6 cells (r*es'+off) (a.eval y).cells.toList)[0]? =cells[0]?\/(off=0/\r*es'=0/\∃c cs' u,cs=c:: cs'/\(zc6 cells (r*es'+off) (a.eval y).cells.toList)[0]? =some u/\Rep H Z c u):=by
    rw[zbM hroom,hlen];by_cases hw0:r*es'+off=0
    ·by_cases hn0:n=0
     ·rw[if_neg (by omega),if_neg (by omega)];exact .inl rfl
     ·rw[if_neg (by omega),if_pos (by omega)];obtain⟨c,cs',rfl⟩:∃c cs',cs=c:: cs':=by
       cases cs with
       |nil=>simp at hs1;omega
       |cons c cs'=>exact⟨c,cs',rfl⟩
      have hy0:0<(a.eval y).cells.size:=by simp at hlen;omega
      refine .inr ⟨by omega,by omega,c,cs',(a.eval y).cells[0],rfl,?_,h3 0 c _ rfl (by simp[hy0])⟩;simp[hw0,hy0]
    ·rw[if_pos (by omega)];exact .inl rfl
   have hsz:(zc6 cells (r*es'+off) (a.eval y).cells.toList).size=cells.size:=ze1 hroom;have old0:∀{p:AV->Bool},off=0->r*es'=0->p (row.headD .junk)=true->p .junk=false->∃d v,p d=true/\cells[0]? =some v/\Rep H Z d v:=by
    intro p h0 h1 h2 hj;cases row with
    |nil=>simp only[List.headD_nil]at h2;rw[hj]at h2;cases h2
    |cons d row'=>obtain⟨_,v,hv,hrep⟩:=g6 0 d rfl;rw[show r*es'+0=0 by omega]at hv;exact⟨d,v,h2,hv,hrep⟩
   refine⟨?_,?_⟩
   ·rintro⟨k2,p,hp⟩;rw[hsz];rcases hcell0 with h0|⟨h0,hr0,c,cs',u,rfl,hu,hrep⟩
    ·rw[h0]at hp;exact e7.1 ⟨k2,p,hp⟩
    ·rw[hu]at hp;cases hp;simp only[stC,h0,bne_self_eq_false,Bool.or_false,Bool.or_eq_true,yhb]at hs4;rcases hs4 with(hs4|hs4)|hs4
     ·have hs4:c.np=true:=hs4;unfold AV.np at hs4;rw[yhb]at hs4;exact(zrh hs4.1 hrep).elim
     ·obtain⟨d,v,hd,hv,hdr⟩:=old0 (p:=AV.pt) h0 hr0 hs4.1 rfl;obtain⟨q,rfl⟩:=zAB hd hdr;exact e7.1 ⟨k2,q,hv⟩
     ·exact(zrh (show c.na=true from hs4.2) hrep).elim
   ·rintro⟨p,hp⟩;rcases hcell0 with h0|⟨h0,hr0,c,cs',u,rfl,hu,hrep⟩
    ·rw[h0]at hp;exact e7.2 ⟨p,hp⟩
    ·rw[hu]at hp;cases hp;simp only[stC,h0,bne_self_eq_false,Bool.or_false,Bool.or_eq_true,yhb]at hs4;rcases hs4 with(hs4|hs4)|hs4
     ·have hs4:c.np=true:=hs4;unfold AV.np at hs4;rw[yhb]at hs4;exact(zrg hs4.2 hrep).elim
     ·exact(zrg (show c.n8=true from hs4.2) hrep).elim
     ·obtain⟨d,v,hd,hv,hdr⟩:=old0 (p:=AV.b8) h0 hr0 hs4.1 rfl;obtain⟨q,rfl⟩:=zz0 hd hdr;exact e7.2 ⟨q,hv⟩
  refine⟨undef,_,H,Z,.inr ⟨?_,rfl⟩,.refl _ _,.refl _,.junk,h.sat.rewrite hi hβ (cells:=zc6 cells (r*es'+off) (a.eval y).cells.toList) (elem:=elem) ?_ (by simpa using g4) ?_ ?_ ?_ fun _=>hok⟩
  ·simp[execOp,ho,he,Instr.storeAt,Instr.sureAddr,storeVar,zci hz,h1,hs1,hst]
  ·rw[ze1 hroom];exact g3
  ·intro q hq;rcases List.mem_or_eq_of_mem_set hq with hq|rfl
   ·exact(h.sat.ent i _ _ hi hβ).2.choose_spec.choose_spec.2.2.2.1 q hq
   ·simp;omega
  ·intro q hq;rcases List.mem_or_eq_of_mem_set hq with hq|rfl
   ·exact(h.sat.ent i _ _ hi hβ).2.choose_spec.choose_spec.2.2.2.2.1 q hq
   ·intro c hc;simp only[List.mem_append]at hc;rcases hc with(hc|hc)|hc
    ·obtain⟨k,hk,rfl⟩:=List.getElem_of_mem (List.mem_of_mem_take hc);exact(g6 k _ (ygb hk)).1
    ·exact hcell c hc
    ·obtain⟨k,hk,rfl⟩:=List.getElem_of_mem (List.mem_of_mem_drop hc);exact(g6 k _ (ygb hk)).1
  ·intro q r' j c hq hj;rw[List.getElem?_set]at hq;by_cases hqr:r=q
   ·subst hqr;simp[hrlt]at hq;subst hq;rw[zbM hroom,hlen];rw[List.getElem?_append]at hj;have hl1:(row.take off).length=off:=by simp;omega
    rw[hl1]at hj;split at hj
    ·rename_i hjo;rw[List.getElem?_take]at hj;simp[hjo]at hj;obtain⟨_,v,hv,hrep⟩:=g6 j c hj;exact⟨v,by rw[if_pos (by omega)];exact hv,hrep⟩
    ·rename_i hjo;rw[List.getElem?_append]at hj;split at hj
     ·rename_i hjn;have hv:j-off<(a.eval y).cells.size:=by omega
      refine⟨(a.eval y).cells[j-off],?_,h3 _ _ _ hj (Array.getElem?_eq_getElem hv)⟩;rw[if_neg (by omega),if_pos (by omega),show r*es'+j-(r*es'+off)=j-off by omega];simp[hv]
     ·rename_i hjn;rw[List.getElem?_drop]at hj;rw[show off+n+(j-off-cs.length)=j by omega]at hj;obtain⟨_,v,hv,hrep⟩:=g6 j c hj;exact⟨v,by rw[if_neg (by omega),if_neg (by omega)];exact hv,hrep⟩
   ·rw[if_neg hqr]at hq;obtain⟨_,cells',elem',e1,_,_,e4,_,e6,_⟩:=h.sat.ent i _ _ hi hβ;rw[g2]at e1;cases e1;obtain⟨v,hv,hrep⟩:=e6 q r' j c hq hj;have hjl:j<es':=by have:=e4 r' (ygd hq);have:=(yga.1 hj).1;omega
    refine⟨v,?_,hrep⟩;rw[zbM hroom,hlen];rcases zAK (i:=q) (j:=j) (es:=es') (r:=r) (off:=off) (n:=n) hjl (Ne.symm hqr) (by omega)with hlt|hge
    ·rw[if_pos hlt];exact hv
    ·rw[if_neg (by omega),if_neg (by omega)];exact hv
theorem zop(vs:List Value):∀(s:Nat)(cur:Array Value)(off k:Nat),((vs.zipIdx s).foldl (fun cs (x:Value×Nat)=>cs.setIfInBounds (off+x.2) x.1) cur)[k]? =
 if off+s<=k/\k<off+s+vs.length/\k<cur.size then vs[k-(off+s)]? else cur[k]?:=by
 induction vs with
 |nil=>intro s cur off k;simp;intro h1 h2;omega
 |cons v vs ih=>
  intro s cur off k;simp only[List.zipIdx_cons,List.foldl_cons,ih (s+1),Array.size_setIfInBounds,yhs];by_cases h1:off+(s+1)<=k/\k<off+(s+1)+vs.length/\k<cur.size
  ·rw[if_pos h1,if_pos (by omega),show k-(off+s)=(k-(off+(s+1)))+1 by omega];simp
  ·rw[if_neg h1];by_cases h2:k=off+s
   ·subst h2;by_cases h3:off+s<cur.size
    ·simp[h3]
    ·simp[h3]
   ·rw[Array.getElem?_setIfInBounds_ne (by omega),if_neg (by omega)]
theorem zgC(vs:List Value):∀(s:Nat)(cur:Array Value)(off:Nat),((vs.zipIdx s).foldl (fun cs (x:Value×Nat)=>cs.setIfInBounds (off+x.2) x.1) cur).size=cur.size:=by
 induction vs with
 |nil=>intro s cur off;simp
 |cons v vs ih=>intro s cur off;simp[List.zipIdx_cons,ih]
theorem zqX{place:Nat->Option (Nat×Nat)}:∀(ps:List (Nat×Value))(qs:List (Nat×List AV))(zs:List AV)(cells:Array Value),cells.size=zs.length->(∀c∈zs,c.isCell=true)->(∀(i:Nat) c v,zs[i]? =some c->cells[i]? =some v->Rep H Z c v)->
 ps.length=qs.length->
 (∀(k:Nat) p q,ps[k]? =some p->qs[k]? =some q->place p.1=some (q.1,q.2.length)/\q.1+q.2.length<=zs.length/\p.2.cells.size=q.2.length/\(∀c∈q.2,c.isCell=true)/\
  ∀(i:Nat) c v,q.2[i]? =some c->p.2.cells[i]? =some v->Rep H Z c v)->
 ∃cells',Instr.fill place cells ps=some cells'/\cells'.size=(zlx zs qs).length/\(∀c∈zlx zs qs,c.isCell=true)/\
  ∀(i:Nat) c v,(zlx zs qs)[i]? =some c->cells'[i]? =some v->Rep H Z c v
 |[],[],zs,cells,h1,h2,h3,_,_=>⟨cells,rfl,h1,h2,h3⟩
 |[],_:: _,_,_,_,_,_,hl,_=>by simp at hl
 |_:: _,[],_,_,_,_,_,hl,_=>by simp at hl
 | (i,v):: ps,(off,cs):: qs,zs,cells,h1,h2,h3,hl,h=>by
  obtain⟨g1,g2,g3,g4,g5⟩:=h 0 (i,v) (off,cs) rfl rfl;simp only at g1 g2 g3 g4 g5;have hlen:(zs.take off++cs++zs.drop (off+cs.length)).length=zs.length:=by simp;omega
  have hget:∀k,(zs.take off++cs++zs.drop (off+cs.length))[k]? =if off<=k/\k<off+cs.length then cs[k-off]? else zs[k]?:=by
   intro k;rw[List.append_assoc,List.getElem?_append,show(zs.take off).length=off by simp;omega];split
   ·rename_i hk;rw[List.getElem?_take,if_pos hk,if_neg (by omega)]
   ·rw[List.getElem?_append];split
    ·rename_i h5 h6;rw[if_pos (by omega)]
    ·rename_i h5 h6;rw[if_neg (by omega),List.getElem?_drop,show off+cs.length+(k-off-cs.length)=k by omega]
  obtain⟨cells',e1,e2,e3,e4⟩:=zqX ps qs (zs.take off++cs++zs.drop (off+cs.length))
   (v.cells.zipIdx.foldl (fun cs (c,j)=>cs.setIfInBounds (off+j) c) cells)
   (by have:=zgC v.cells.toList 0 cells off;rw[hlen,<-h1,<-Array.foldl_toList,Array.toList_zipIdx];exact this)
   (by
    intro c hc;simp only[List.mem_append]at hc;rcases hc with(hc|hc)|hc
    ·exact h2 c (List.mem_of_mem_take hc)
    ·exact g4 c hc
    ·exact h2 c (List.mem_of_mem_drop hc))
   (by
    intro k c u hk hu;have hf:=zop v.cells.toList 0 cells off k;rw[<-Array.foldl_toList,Array.toList_zipIdx]at hu;rw[hf]at hu;rw[hget]at hk;by_cases hin:off<=k/\k<off+cs.length
    ·rw[if_pos hin]at hk;rw[if_pos (by simp;omega)]at hu;exact g5 (k-off) c u hk (by simpa using hu)
    ·rw[if_neg hin]at hk;rw[if_neg (by simp;omega)]at hu;exact h3 k c u hk hu)
   (by simpa using hl)
   (by intro k p q hp hq;obtain⟨f1,f2,f3⟩:=h (k+1) p q (by simpa using hp) (by simpa using hq);exact⟨f1,by rw[hlen];exact f2,f3⟩)
  refine⟨cells',?_,e2,e3,e4⟩;rw[Instr.fill,g1];simp only[g3];rw[if_neg (by simp;omega)];exact e1
theorem zrd{α γ:Type}{f:α->Option γ}:∀(l:List α)(r:List γ),l.mapM f=some r->∀(i:Nat) x,l[i]? =some x->∃y,f x=some y/\r[i]? =some y
|[],_,_,i,x,hx=>by simp at hx
|z:: l,r,h,i,x,hx=>by
 simp only[List.mapM_cons,Option.bind_eq_bind,Option.pure_def]at h;cases hz:f z with
 |none=>simp[hz]at h
 |some y=>
  cases hr:l.mapM f with
  |none=>simp[hz,hr]at h
  |some r'=>
   simp[hz,hr]at h;subst h;cases i with
   |zero=>simp at hx;subst hx;exact⟨y,hz,rfl⟩
   |succ i=>exact zrd l r' hr i x (by simpa using hx)
theorem zjh{t:TypeId}{env:List (Nat×AV)}:∀(ps:List (Nat×Nat×Ar))(qs:List (Nat×Operand)),zcI P t ps qs=true->
 qs.length=ps.length/\∀(k:Nat) p q,ps[k]? =some p->qs[k]? =some q->∃t',zgB P t q.1=some (p.1,t')/\szB P t'=some p.2.1/\zah p.2.2 q.2=true
 |[],[],_=>⟨rfl,by simp⟩
 |[],_:: _,h=>by simp[zcI]at h
 |_:: _,[],h=>by simp[zcI]at h
 | (o,s,x):: r,(i,y):: r',h=>by
  simp only[zcI,yhb]at h;obtain⟨⟨h1,h2⟩,h3⟩:=h;obtain⟨h4,h5⟩:=zjh (env:=env) r r' h3;refine⟨by simp[h4],fun k p q hp hq=>?_⟩;cases k with
  |zero=>
   simp at hp hq;subst hp;subst hq;split at h1
   ·rename_i o' t' hf;simp at h1;exact⟨t',by rw[hf,h1.1],h1.2,h2⟩
   ·cases h1
  |succ k=>exact h5 k p q (by simpa using hp) (by simpa using hq)
theorem znM{t:TypeId}{zs:List AV}(hz:zex P t zs=true):∃i z,P.info? t=some i/\i.zero=some z/\zcJ zs z.cells.toList=true:=by
 unfold zex at hz;cases hi:P.info? t with
 |none=>simp[hi]at hz
 |some i=>
  cases hzz:i.zero with
  |none=>simp[hi,hzz]at hz
  |some z=>simp[hi,hzz]at hz;exact⟨i,z,rfl,hzz,hz⟩
theorem zmp{zs zs':List AV}{parts:List (Nat×Nat×Ar)}{t:TypeId}{ps:Array (Nat×Operand)}{β':Bt}(h:Rel H F Z N st a w)(hz:zex P t zs=true)(hpl:(ziU P t).isSome=true)
 (hps:zcI P t parts ps.toList=true)(ho:o.op=.build t ps)
 (hs:(parts.all fun(o,s,x)=>(ar st.env x).cells.length==s&&(ar st.env x).cells.all AV.isCell&&decide (o+s<=zs.length))=true)(hB:zcY Z β')(hzl:zs'.length=zs.length)(hzc:∀c∈zs',c.isCell=true)
 (hzr:∀(i:Nat) c c' v,zs[i]? =some c->zs'[i]? =some c'->zaE c v=true->Rep H β' c' v):
 ∃v,(execOp a.eval o).run P w=.ok (.value v) w/\Rep H β' (.agg (zlx zs' (parts.map fun(o,_,x)=>(o,(ar st.env x).cells)))) v:=by
 obtain⟨it,z,hi,hzz,hco⟩:=znM hz;obtain⟨z1,z2,z3⟩:=zji zs z.cells.toList hco;obtain⟨hl,hget⟩:=zjh (env:=st.env) _ _ hps;unfold ziU at hpl;cases hu:P.underlying t with
 |none=>simp[hu]at hpl
 |some d=>
  cases d<;>try(simp[hu]at hpl;done)
  rename_i fields;simp only[hu]at hpl;obtain⟨places,hplaces⟩:=Option.isSome_iff_exists.1 hpl;obtain⟨cells',e1,e2,e3,e4⟩:=zqX (H:=H) (Z:=β') (place:=(places.toArray[·]?)) (ps.map fun(i,x)=>(i,a.eval x)).toList (parts.map fun(o,_,x)=>(o,(ar st.env x).cells)) zs' z.cells
   (by rw[hzl];simpa using z1.symm) hzc (fun i c v hc hv=>by obtain⟨hlt,_⟩:=yga.1 hc;exact hzr i (zs[i]'(by omega)) c v (ygb (by omega)) hc (z3 i _ _ (ygb (by omega)) (by simpa using hv))) (by simpa using hl)
   (by
    intro k p q hp hq;simp only[Array.toList_map,List.getElem?_map,Option.map_eq_some_iff]at hp hq;obtain⟨⟨i,y⟩,hp,rfl⟩:=hp;obtain⟨⟨off,s,x⟩,hq,rfl⟩:=hq;obtain⟨t',f1,f2,f3⟩:=hget k _ _ hq hp;simp only at f1 f2 f3;have hall:=List.all_eq_true.1 hs _ (ygd hq);simp only[yhb,yhe,yhc]at hall;obtain⟨⟨a1,a2⟩,a3⟩:=hall;have hcell:∀c∈(ar st.env x).cells,c.isCell=true:=fun c hc=>List.all_eq_true.1 a2 c hc;obtain⟨c1,c2,c3⟩:=(h.ar f3).cells hcell;obtain⟨fs,fd,g1,g2,g3,g4⟩:=zjL f1;rw[hu]at g1;cases g1;obtain⟨pl,p1,p2⟩:=zrd _ _ hplaces i fd (by simpa using g2);unfold szB at f2;rw[<-g4]at f2;cases hfi:P.info? fd.type with
    |none=>simp[hfi]at f2
    |some ii=>simp[hfi]at f2 p1;subst p1;refine⟨by simp[p2,g3,f2,a1],by simp;omega,c1,hcell,fun i c v q1 q2=>(c3 i c v q1 q2).mono (.refl _) hB⟩)
  refine⟨.agg cells',?_,.agg e2 e3 e4⟩;have hb:P.built t (ps.map fun(i,x)=>(i,a.eval x)).toList=some cells':=by unfold Program.built;simp only[hi,hu,hzz,hplaces];exact e1
  simp[execOp,ho,run_build w t _ cells' hb]
theorem zuM{zs:List AV}{parts:List (Nat×Nat×Ar)}{t:TypeId}{ps:Array (Nat×Operand)}(h:Rel H F Z N st a w)(hz:zex P t zs=true)(hpl:(ziU P t).isSome=true)
 (hps:zcI P t parts ps.toList=true)(ho:o.op=.build t ps)
 (hs:(parts.all fun(o,s,x)=>(ar st.env x).cells.length==s&&(ar st.env x).cells.all AV.isCell&&decide (o+s<=zs.length))=true):
 zcH P H F Z o a w (.agg (zlx zs (parts.map fun(o,_,x)=>(o,(ar st.env x).cells)))) st.mem:=by
 obtain⟨it,z,hi,hzz,hco⟩:=znM hz;obtain⟨z1,z2,z3⟩:=zbE H Z zs z.cells.toList hco;obtain⟨v,h1,h2⟩:=zmp h hz hpl hps ho hs (.refl _) rfl z2 fun i c c' v q1 q2 q3=>by rw[q1]at q2;cases q2;exact zeI H Z c v q3
 exact .same h h1 h2
theorem zso{zs:List AV}{parts:List (Nat×Nat×Ar)}{t:TypeId}{ps:Array (Nat×Operand)}{p es:Nat}(h:Rel H F Z N st a w)(hz:zex P t zs=true)(hpl:(ziU P t).isSome=true)
 (hps:zcI P t parts ps.toList=true)(ho:o.op=.build t ps)(hp:zs[p]? =some .e0)
 (hs:(parts.all fun(o,s,x)=>(ar st.env x).cells.length==s&&(ar st.env x).cells.all AV.isCell&&decide (o+s<=zs.length))=true):
 zcH P H F Z o a w (.agg (zlx (zs.set p (.ms st.mem.length es 0 0)) (parts.map fun(o,_,x)=>(o,(ar st.env x).cells)))) (st.mem++[.arr es []]):=by
 obtain⟨it,z,hi,hzz,hco⟩:=znM hz;obtain⟨z1,z2,z3⟩:=zbE H Z zs z.cells.toList hco;have hB:=zcY.append Z [none];have hlt:=(yga.1 hp).1;obtain⟨v,h1,h2⟩:=zmp (zs':=zs.set p (.ms st.mem.length es 0 0)) h hz hpl hps ho hs hB (by simp) (fun c hc=>by
  rcases List.mem_or_eq_of_mem_set hc with hc|rfl
  ·exact z2 c hc
  ·rfl) fun i c c' v q1 q2 q3=>by
  rw[List.getElem?_set]at q2;split at q2
  ·rename_i e;subst e;try rw[if_pos hlt]at q2
   cases q2;rw[hp]at q1;cases q1;have h0:(Z++[none])[st.mem.length]? =some none:=by rw[ygf (by rw[h.sat.hl];exact Nat.le_refl _),h.sat.hl];simp
   obtain⟨a,rfl⟩:=zrG v q3;exact .ms0 h0
  ·rw[q1]at q2;cases q2;exact(zeI H Z c v q3).mono (.refl _) hB
 exact⟨v,w,H,Z++[none],.inl h1,.refl _ _,hB,h2,h.sat.own_none es⟩
theorem zkb:∀(ps:List Ar)(qs:List (Nat×Operand))(n:Nat),zdW n ps qs=true->
 qs.length=ps.length/\∀(k:Nat) p q,ps[k]? =some p->qs[k]? =some q->q.1=n+k/\zah p q.2=true
 |[],[],_,_=>⟨rfl,by simp⟩
 |[],_:: _,_,h=>by simp[zdW]at h
 |_:: _,[],_,h=>by simp[zdW]at h
 |x:: r,(i,y):: r',n,h=>by
  simp only[zdW,yhb,yhe]at h;obtain⟨⟨h1,h2⟩,h3⟩:=h;obtain⟨h4,h5⟩:=zkb r r' (n+1) h3;refine⟨by simp[h4],fun k p q hp hq=>?_⟩;cases k with
  |zero=>simp at hp hq;subst hp;subst hq;exact⟨by simp[h1],h2⟩
  |succ k=>obtain⟨g1,g2⟩:=h5 k p q (by simpa using hp) (by simpa using hq);exact⟨by omega,g2⟩
end
end Go.Fw
namespace Go.Fw
open Go
theorem zol{es:Nat}:∀(ps:List (Nat×Value))(n0:Nat)(cells:Array Value),(∀(k:Nat) p,ps[k]? =some p->p.1=n0+k/\p.2.cells.size=es)->(n0+ps.length)*es<=cells.size->
 ∃cells',Instr.fill (fun i=>some (i*es,es)) cells ps=some cells'/\cells'.size=cells.size/\(∀j,j<n0*es->cells'[j]? =cells[j]?)/\
  ∀(k:Nat) p j,ps[k]? =some p->j<es->cells'[(n0+k)*es+j]? =p.2.cells[j]?
 |[],n0,cells,_,_=>⟨cells,rfl,rfl,fun _ _=>rfl,fun k p j hp=>by simp at hp⟩
 | (i,v):: ps,n0,cells,h,hl=>by
  obtain⟨h1,h2⟩:=h 0 (i,v) rfl;simp only[Nat.add_zero]at h1 h2;subst h1;have hroom:(i+1)*es<=cells.size:=by have:(i+1)*es<=(i+((i,v):: ps).length)*es:=Nat.mul_le_mul_right _ (by simp);omega
  have hro2:i*es+es<=cells.size:=by rw[Nat.add_mul]at hroom;omega
  have hsz:=zgC v.cells.toList 0 cells (i*es);obtain⟨cells',e1,e2,e3,e4⟩:=zol (es:=es) ps (i+1) (v.cells.zipIdx.foldl (fun cs (c,j)=>cs.setIfInBounds (i*es+j) c) cells)
   (fun k p hp=>by obtain⟨a,b⟩:=h (k+1) p (by simpa using hp);exact⟨by omega,b⟩)
   (by rw[<-Array.foldl_toList,Array.toList_zipIdx,hsz];simp at hl|-;rw[show i+1+ps.length=i+(ps.length+1) by omega];exact hl)
  have hs2:(v.cells.zipIdx.foldl (fun cs (c,j)=>cs.setIfInBounds (i*es+j) c) cells).size=cells.size:=by rw[<-Array.foldl_toList,Array.toList_zipIdx];exact hsz
  have hg:∀k,(v.cells.zipIdx.foldl (fun cs (c,j)=>cs.setIfInBounds (i*es+j) c) cells)[k]? =if i*es<=k/\k<i*es+es then v.cells[k-i*es]? else cells[k]?:=by
   intro k;have:=zop v.cells.toList 0 cells (i*es) k;rw[<-Array.foldl_toList,Array.toList_zipIdx,this];simp only[Nat.add_zero,Array.length_toList,h2];by_cases hk:i*es<=k/\k<i*es+es
   ·rw[if_pos hk,if_pos (by omega)];simp
   ·rw[if_neg hk,if_neg (by omega)]
  refine⟨cells',?_,by rw[e2,hs2],fun j hj=>?_,fun k p j hp hj=>?_⟩
  ·rw[Instr.fill];simp only[h2];rw[if_neg (by simp;omega)];exact e1
  ·rw[e3 j (by rw[Nat.add_mul];omega),hg,if_neg (by omega)]
  ·cases k with
   |zero=>simp at hp;subst hp;rw[Nat.add_zero,e3 _ (by rw[Nat.add_mul];omega),hg,if_pos (by omega)];simp
   |succ k=>have:=e4 k p j (by simpa using hp) hj;rw[show i+(k+1)=i+1+k by omega];exact this
section
variable {P:Program}{H:Hp}{F:Fr}{Z:Bt}{N:Nat}{st:St}{a:Act}{w:World}{o:Oper}
theorem zuC{t e:TypeId}{es n:Nat}{ps:Array (Nat×Operand)}{parts:List Ar}(h:Rel H F Z N st a w)(he:zbZ P t=some e)(hz:szB P e=some es)
 (hzz:(P.info? e).any (·.zero.isSome)=true)(hn:n=parts.length)(h0:0<es)(hlim:n*es<=16777216)(hps:zdW 0 parts ps.toList=true)(ho:o.op=.buildSlice t n ps)
 (hs:∀x∈parts,(ar st.env x).cells.length=es/\∀c∈(ar st.env x).cells,c.isCell=true):
 ∃cells:Array Value,(execOp a.eval o).run P w=.ok (.value (.slice (some ⟨w.heap.size,0,none⟩) n n)) (w.alloc (.cells cells e))/\cells.size=n*es/\
  ∀(i:Nat)(r:List AV)(j:Nat)(c:AV),(parts.map fun x=>(ar st.env x).cells)[i]? =some r->r[j]? =some c->c.isCell=true/\∃v,cells[i*es+j]? =some v/\Rep H Z c v:=by
 obtain⟨g1,g2⟩:=zkb _ _ _ hps;have hzv:∃z,(zeroValue e).run P w=.ok z w:=by
  cases hi:P.info? e with
  |none=>simp[hi]at hzz
  |some i=>simp[hi]at hzz;obtain⟨z,hz'⟩:=Option.isSome_iff_exists.1 hzz;exact⟨z,by simp[zeroValue,typeInfo,hi,hz']⟩
 obtain⟨z,hzv⟩:=hzv;have key:∀init:Array Value,init.size=n*es->∃cells,Instr.fill (fun i=>some (i*es,es)) init (ps.map fun(i,x)=>(i,a.eval x)).toList=some cells/\cells.size=n*es/\
  ∀(k:Nat) p j,(ps.map fun(i,x)=>(i,a.eval x)).toList[k]? =some p->j<es->cells[k*es+j]? =p.2.cells[j]?:=by
  intro init hinit;obtain⟨cells,f1,f2,f3,f4⟩:=zol (es:=es) (ps.map fun(i,x)=>(i,a.eval x)).toList 0 init (fun k p hp=>by
   simp only[Array.toList_map,List.getElem?_map,Option.map_eq_some_iff]at hp;obtain⟨⟨i,y⟩,hp,rfl⟩:=hp;have hlt:k<parts.length:=by have:=(yga.1 hp).1;omega
   obtain⟨q1,q2⟩:=g2 k parts[k] (i,y) (ygb hlt) hp;obtain⟨s1,s2⟩:=hs parts[k] (ygh hlt);exact⟨by simpa using q1,by rw[((h.ar q2).cells s2).1,s1]⟩) (by simp at g1|-;rw[hinit,hn,<-g1];exact Nat.le_refl _)
  exact⟨cells,f1,by rw[f2,hinit],fun k p j hp hj=>by have:=f4 k p j hp hj;simpa using this⟩
 have hrow:∀cells:Array Value,(∀(k:Nat) p j,(ps.map fun(i,x)=>(i,a.eval x)).toList[k]? =some p->j<es->cells[k*es+j]? =p.2.cells[j]?)->
  ∀(i:Nat)(r:List AV)(j:Nat)(c:AV),(parts.map fun x=>(ar st.env x).cells)[i]? =some r->r[j]? =some c->c.isCell=true/\∃v,cells[i*es+j]? =some v/\Rep H Z c v:=by
  intro cells hc i r j c hi hj;rw[List.getElem?_map,Option.map_eq_some_iff]at hi;obtain⟨x,hx,rfl⟩:=hi;obtain⟨s1,s2⟩:=hs x (ygd hx);have hlt:i<ps.toList.length:=by rw[g1];exact(yga.1 hx).1
  obtain⟨q1,q2⟩:=g2 i x ps.toList[i] hx (ygb hlt);have hjl:j<es:=by have:=(yga.1 hj).1;omega
  have hr:=(h.ar q2).cells s2;have hjv:j<(a.eval ps.toList[i].2).cells.size:=by rw[hr.1];omega
  refine⟨s2 c (ygd hj),(a.eval ps.toList[i].2).cells[j],?_,hr.2.2 j c _ hj (Array.getElem?_eq_getElem hjv)⟩;rw[hc i (ps.toList[i].1,a.eval ps.toList[i].2) j (by simp[List.getElem?_map,ygb hlt]) hjl];exact Array.getElem?_eq_getElem hjv
 have hlim':¬(16777216<n*es):=by omega
 by_cases hn0:n*es=0
 ·obtain⟨cells,f1,f2,f3⟩:=key #[] (by simp[hn0]);refine⟨cells,?_,f2,hrow cells f3⟩;have f1':Instr.fill (fun i=>some (i*es,es)) #[] (ps.toList.map fun x=>(x.1,a.eval x.2))=some cells:=by simpa using f1
  have hn0':n=0:=by
   rcases Nat.mul_eq_zero.1 hn0 with h|h
   ·exact h
   ·omega
  subst hn0';simp only[execOp,ho,Instr.buildSlice,run_underlying (zaJ he),zci hz,Sem.run_bind,Result.andThen_ok,Sem.run_pure];rw[if_neg (by omega)];simp only[hn0,if_true,Sem.run_bind,Result.andThen_ok,Sem.run_pure,Array.toList_map];have hr0:(Array.range 0).map ((#[]:Array Value)[· % (#[]:Array Value).size]!)= #[]:=by apply Array.eq_empty_of_size_eq_zero;simp
  rw[hr0,f1'];simp[newRow]
 ·obtain⟨cells,f1,f2,f3⟩:=key ((Array.range (n*es)).map (z.cells[· % z.cells.size]!)) (by simp);refine⟨cells,?_,f2,hrow cells f3⟩;have f1':Instr.fill (fun i=>some (i*es,es)) ((Array.range (n*es)).map (z.cells[· % z.cells.size]!)) (ps.toList.map fun x=>(x.1,a.eval x.2))=some cells:=by simpa using f1
  simp only[execOp,ho,Instr.buildSlice,run_underlying (zaJ he),zci hz,Sem.run_bind,Result.andThen_ok,Sem.run_pure];rw[if_neg (by omega)];simp only[hn0,if_false,Sem.run_bind,hzv,Result.andThen_ok,Sem.run_pure,Array.toList_map];rw[f1'];simp[newRow]
theorem zzh{t e:TypeId}{es n:Nat}{ps:Array (Nat×Operand)}{parts:List Ar}(h:Rel H F Z N st a w)(he:zbZ P t=some e)(hz:szB P e=some es)
 (hzz:(P.info? e).any (·.zero.isSome)=true)(hn:n=parts.length)(h0:0<es)(hlim:n*es<=16777216)(hps:zdW 0 parts ps.toList=true)(ho:o.op=.buildSlice t n ps)
 (hs:(parts.all fun x=>(ar st.env x).cells.length==es&&(ar st.env x).cells.all fun c=>c.isCell&&c.pure)=true):
 zcH P H F Z o a w (.sl es (parts.map fun x=>(ar st.env x).cells)) st.mem:=by
 have hs':∀x∈parts,(ar st.env x).cells.length=es/\∀c∈(ar st.env x).cells,c.isCell=true/\c.pure=true:=by intro x hx;have:=List.all_eq_true.1 hs x hx;simp only[yhb,yhe,List.all_eq_true]at this;exact this
 obtain⟨cells,r1,r2,r3⟩:=zuC h he hz hzz hn h0 hlim hps ho fun x hx=>⟨(hs' x hx).1,fun c hc=>((hs' x hx).2 c hc).1⟩
 have hne:=h.sat.none_at_size;have hpl:n<=16777216:=by have:n*1<=n*es:=Nat.mul_le_mul_left _ h0;omega
 refine⟨_,_,zgb H w.heap.size (.cells cells e),Z,.inl r1,ziw hne,.refl _,?_,h.sat.alloc_pub _⟩;refine .sl w.heap.size 0 cells (fun i j=>cells.getD (i*es+j) undef) (by simp[hn]) (Nat.le_refl _) (by unfold BIG;omega) ?_ (fun _=>⟨rfl,e,(0,0),by simp[zgb]⟩) ?_ ?_ ?_
 ·intro r hr;obtain⟨x,hx,rfl⟩:=List.mem_map.1 hr;exact(hs' x hx).1
 ·intro i j hi hj;simp at hi;have hlt:i*es+j<cells.size:=by rw[r2];have:(i+1)*es<=n*es:=Nat.mul_le_mul_right _ (by omega);rw[Nat.add_mul]at this;omega
  simp[hlt]
 ·intro r hr c hc;obtain⟨x,hx,rfl⟩:=List.mem_map.1 hr;exact((hs' x hx).2 c hc).1
 ·intro i r j c hi hj;obtain⟨_,v,hv,hrep⟩:=r3 i r j c hi hj;have hv':cells.getD (i*es+j) undef=v:=by simp[hv]
  rw[hv'];refine(hrep.pure ?_ []).mono (zdt hne.1) (.refl _);rw[List.getElem?_map,Option.map_eq_some_iff]at hi;obtain⟨x,hx,rfl⟩:=hi;exact((hs' x (ygd hx)).2 c (ygd hj)).2
theorem zwI{t e:TypeId}{es n:Nat}{ps:Array (Nat×Operand)}{parts:List Ar}(h:Rel H F Z N st a w)(he:zbZ P t=some e)(hz:szB P e=some es)
 (hzz:(P.info? e).any (·.zero.isSome)=true)(hn:n=parts.length)(h0:0<es)(hlim:n*es<=16777216)(hps:zdW 0 parts ps.toList=true)(ho:o.op=.buildSlice t n ps)
 (hs:(parts.all fun x=>(ar st.env x).cells.length==es&&(ar st.env x).cells.all AV.isCell)=true)(hb:(np1 ((parts.map fun x=>(ar st.env x).cells).headD []) ||es !=2&&hd1 AV.n8 ((parts.map fun x=>(ar st.env x).cells).headD []))=true):
 zcH P H F Z o a w (.ms st.mem.length es 0 parts.length) (st.mem++[.arr es (parts.map fun x=>(ar st.env x).cells)]):=by
 have hs':∀x∈parts,(ar st.env x).cells.length=es/\∀c∈(ar st.env x).cells,c.isCell=true:=by intro x hx;have:=List.all_eq_true.1 hs x hx;simp only[yhb,yhe,List.all_eq_true]at this;exact this
 obtain⟨cells,r1,r2,r3⟩:=zuC h he hz hzz hn h0 hlim hps ho hs';have hpl:n<=16777216:=by have:n*1<=n*es:=Nat.mul_le_mul_left _ h0;omega
 refine⟨_,_,H,Z++[some (w.heap.size,es,n)],.inl r1,.refl _ _,.append _ _,?_,h.sat.alloc_own r2 (by simp[hn]) ?_ ?_ (fun i r j c hi hj=>(r3 i r j c hi hj).2) fun _=>?_⟩
 ·have:Rep H (Z++[some (w.heap.size,es,n)]) (.ms st.mem.length es 0 n) (.slice (some ⟨w.heap.size,0*es,none⟩) n n):=
   .ms (b:=w.heap.size) (capT:=n) (by rw[<-h.sat.hl];simp) (by omega) (Nat.le_refl _) (by unfold BIG;omega)
  rw[<-hn];simpa using this
 ·intro r hr;obtain⟨x,hx,rfl⟩:=List.mem_map.1 hr;exact(hs' x hx).1
 ·intro r hr c hc;obtain⟨x,hx,rfl⟩:=List.mem_map.1 hr;exact(hs' x hx).2 c hc
 ·have key:∀{p:AV->Bool},hd1 p ((parts.map fun x=>(ar st.env x).cells).headD [])=true->∀v,cells[0]? =some v->∃c,p c=true/\Rep H Z c v:=fun hp=>zyg hp (fun r hr=>by have hr:=List.mem_of_mem_head? (by rw[hr];rfl);obtain⟨x,hx,rfl⟩:=List.mem_map.1 hr;intro e;have:=(hs' x hx).1;rw[e]at this;simp at this;omega) (fun e=>by rw[r2,hn,show parts=[]from List.map_eq_nil_iff.1 e];simp) (fun r c hr hc=>by simpa using(r3 0 r 0 c hr hc).2)
  rw[Bool.or_eq_true,yhb]at hb;rcases hb with hb|hb
  ·exact zoQ (key hb)
  ·exact zxu (.inl (by simpa using hb.1)) (key hb.2)
theorem zwH{t e:TypeId}{es:Nat}{ps:Array (Nat×Operand)}(h:Rel H F Z N st a w)(he:zbZ P t=some e)(hz:szB P e=some es)(hps:ps.size=0)(ho:o.op=.buildSlice t 0 ps):
 zcH P H F Z o a w .e0 st.mem:=by
 have hne:=h.sat.none_at_size;have hp0:ps= #[]:=Array.eq_empty_of_size_eq_zero hps;refine⟨.slice (some ⟨w.heap.size,0,none⟩) 0 0,w.alloc (.cells #[] e),zgb H w.heap.size (.cells #[] e),Z,.inl ?_,ziw hne,.refl _,.e0,h.sat.alloc_pub _⟩;subst hp0;have hr0:Array.map (fun _=>(default:Value)) (Array.range 0)= #[]:=by apply Array.eq_empty_of_size_eq_zero;simp
 simp[execOp,ho,Instr.buildSlice,run_underlying (zaJ he),zci hz,newRow,Instr.fill,hr0]
theorem zqH{env:List (Nat×AV)}{d n:Int}{x:Option Ar}{y:Option Operand}(h:Rel H F Z N st a w)(he:env=st.env)(hc:zqL x y=true)(hb:bnd env d x=some n):
 (x=none/\y=none/\n=d)\/(∃a' b' k,x=some a'/\y=some b'/\a.eval b'=.int k n):=by
 subst he;cases x with
 |none=>
  cases y with
  |none=>simp[bnd]at hb;exact .inl ⟨rfl,rfl,hb.symm⟩
  |some _=>simp[zqL]at hc
 |some a'=>
  cases y with
  |none=>simp[zqL]at hc
  |some b'=>
   simp only[zqL]at hc;simp only[bnd]at hb;split at hb
   ·rename_i k m hk;cases hb;have r:=h.ar hc;rw[hk]at r;exact .inr ⟨a',b',k,rfl,rfl,(zct r).1⟩
   ·cases hb
theorem zmo{lo hi:Option Ar}{lo' hi':Option Operand}{l u:Int}{len cap:Nat}{sl:Bool}(h:Rel H F Z N st a w)(h1:zqL lo lo'=true)(h2:zqL hi hi'=true)
 (hl:bnd st.env 0 lo=some l)(hu:bnd st.env len hi=some u)(hlen:len<=cap)(h0:0<=l)(hlu:l<=u)(hul:u<=len):
 (Instr.sliceBounds sl len cap (lo'.map a.eval) (hi'.map a.eval) none).run P w=.ok (l.toNat,u.toNat,cap) w:=by
 have e2:((u.toNat:Nat):Int)=u:=Int.toNat_of_nonneg (by omega);rcases zqH h rfl h1 hl with⟨rfl,rfl,rfl⟩|⟨x1,y1,k1,rfl,rfl,e1⟩<;>rcases zqH h rfl h2 hu with⟨rfl,rfl,rfl⟩|⟨x2,y2,k2,rfl,rfl,e3⟩
 ·simp[Instr.sliceBounds]
 ·simp[Instr.sliceBounds,e3,run_sliceBound,show 0<=u by omega,show u<=(cap:Int) by omega]
 ·simp[Instr.sliceBounds,e1,run_sliceBound,h0,show l<=(len:Int) by omega]
 ·simp[Instr.sliceBounds,e1,e3,run_sliceBound,h0,show 0<=u by omega,show u<=(cap:Int) by omega,e2,hlu]
theorem zqf{x:Ar}{y:Operand}{lo hi:Option Ar}{lo' hi':Option Operand}{t e:TypeId}{sz:Nat}{l u:Int}(h:Rel H F Z N st a w)(hc:zah x y=true)(h1:zqL lo lo'=true)(h2:zqL hi hi'=true)
 (ho:o.op=.slice t y lo' hi' none)(he:zbZ P t=some e)(hz:szB P e=some sz)(hl:bnd st.env 0 lo=some l):
 (∀es rows,sz=es->ar st.env x=.sl es rows->bnd st.env rows.length hi=some u->0<=l/\l<=u/\u<=rows.length->zcH P H F Z o a w (.sl es ((rows.drop l.toNat).take (u.toNat-l.toNat))) st.mem)/\
 (∀i es off len,sz=es->ar st.env x=.ms i es off len->bnd st.env len hi=some u->0<=l/\l<=u/\u<=len->zcH P H F Z o a w (.ms i es (off+l.toNat) (u.toNat-l.toNat)) st.mem)/\
 (ar st.env x=.e0->bnd st.env 0 hi=some u->l=0/\u=0->zcH P H F Z o a w .e0 st.mem):=by
 have run:∀b len cap,a.eval y=.slice b len cap->bnd st.env len hi=some u->len<=cap->0<=l->l<=u->u<=len->
  (execOp a.eval o).run P w=.ok (.value (.slice (if cap=l.toNat then b else b.map (·.add (l.toNat*sz))) (u.toNat-l.toNat) (cap-l.toNat))) w:=by
  intro b len cap hy hu hlc h0 hlu hul;have hb:=zmo (P:=P) (sl:=true) h h1 h2 hl hu hlc h0 hlu hul;simp[execOp,ho,Instr.sliceAt,run_underlying (zaJ he),Instr.slice,hy,hb,zci hz]
 have r:=h.ar hc;refine⟨fun es rows hes hx hu ⟨g0,g1,g2⟩=>?_,fun i es off len hes hx hu ⟨g0,g1,g2⟩=>?_,fun hx hu ⟨g0,g1⟩=>?_⟩
 ·subst hes;rw[hx]at r;generalize hy:a.eval y=av at r;cases r with
  | @sl _ _ _ a' len cap b o' cells f hlen hcap hbig hes hblk hcs hcell hrep=>
   subst hlen;refine .same h (run _ _ _ hy hu hcap g0 g1 g2) (.sl b (o'+l.toNat*sz) cells (fun i j=>f (l.toNat+i) j) ?_ (by omega) (by omega) (fun q hq=>hes q (List.mem_of_mem_drop (List.mem_of_mem_take hq)))
    (fun hne=>?_) (fun i j hi hj=>?_) (fun q hq=>hcell q (List.mem_of_mem_drop (List.mem_of_mem_take hq))) fun i q j c hi hj=>?_)
   ·simp;omega
   ·have hlt:l.toNat<rows.length:=by
     rcases Nat.lt_or_ge l.toNat rows.length with h|h
     ·exact h
     ·exact absurd (by simp[List.drop_eq_nil_of_le h]) hne
    obtain⟨rfl,elem,fz,hH⟩:=hblk (by intro e;subst e;simp at hlt);refine⟨?_,elem,fz,hH⟩;rw[if_neg (by omega)];simp[zbI]
   ·simp at hi;have:=hcs (l.toNat+i) j (by omega) hj;rw[<-this,Nat.add_mul];congr 1;omega
   ·rw[List.getElem?_take]at hi;split at hi
    ·rw[List.getElem?_drop]at hi;exact hrep (l.toNat+i) q j c hi hj
    ·cases hi
 ·subst hes;rw[hx]at r;generalize hy:a.eval y=av at r;cases r with
  | @ms _ _ _ _ _ b capT cap hβ hcap hlen hbig=>
   have rr:=run _ _ _ hy hu hlen g0 g1 g2;by_cases hcl:cap=l.toNat
   ·rw[if_pos hcl,show u.toNat-l.toNat=0 by omega,show cap-l.toNat=0 by omega]at rr;rw[show u.toNat-l.toNat=0 by omega];exact .same h rr (.ms0 hβ)
   ·rw[if_neg hcl]at rr;have e1:off*sz+l.toNat*sz=(off+l.toNat)*sz:=by rw[Nat.add_mul]
    simp only[Option.map_some,zbI,e1]at rr;exact .same h rr (.ms hβ (by omega) (by omega) (by omega))
  |ms0 hβ=>have rr:=run _ _ _ hy hu (Nat.le_refl _) g0 g1 g2;rw[show u.toNat-l.toNat=0 by omega]at rr|-;rw[show 0-l.toNat=0 by omega]at rr;exact .same h rr (.ms0 hβ)
 ·rw[hx]at r;generalize hy:a.eval y=av at r;cases r with
  |e0=>have rr:=run _ 0 0 hy (by simpa using hu) (Nat.le_refl _) (by omega) (by omega) (by omega);rw[show u.toNat-l.toNat=0 by omega,show 0-l.toNat=0 by omega]at rr;exact .same h rr .e0
theorem zzq{x:Ar}{y:Operand}{lo hi:Option Ar}{lo' hi':Option Operand}{t:TypeId}{l u:Int}{s:List UInt8}(h:Rel H F Z N st a w)(hc:zah x y=true)(h1:zqL lo lo'=true)(h2:zqL hi hi'=true)
 (ho:o.op=.slice t y lo' hi' none)(ht:zh8 P t=true)(hl:bnd st.env 0 lo=some l)(hx:ar st.env x=.str s)(hu:bnd st.env s.length hi=some u)(hs:0<=l/\l<=u/\u<=s.length):
 zcH P H F Z o a w (.str ((s.drop l.toNat).take (u.toNat-l.toNat))) st.mem:=by
 obtain⟨g0,g1,g2⟩:=hs;have r:=h.ar hc;rw[hx]at r;obtain⟨e,hbig⟩:=zcu r;have hsz:(ByteArray.mk s.toArray).size=s.length:=by simp[ByteArray.size]
 have hb:=zmo (P:=P) (sl:=false) h h1 h2 hl hu (Nat.le_refl _) g0 g1 g2;rw[<-hsz]at hb;refine .same (x:=.string ⟨((s.drop l.toNat).take (u.toNat-l.toNat)).toArray⟩) h ?_ (.str (by simp;omega));have hex:(ByteArray.mk s.toArray).extract l.toNat u.toNat=⟨((s.drop l.toNat).take (u.toNat-l.toNat)).toArray⟩:=by apply ByteArray.ext;simp[List.extract_eq_take_drop]
 simp[execOp,ho,Instr.sliceAt,run_underlying (zes ht),Instr.slice,e,hb,hex]
end
end Go.Fw
namespace Go.Fw
open Go
section
variable {P:Program}{H:Hp}{F:Fr}{Z:Bt}{N:Nat}{st:St}{a:Act}{w:World}{o:Oper}
theorem ztc{p n es:Nat}(h0:0<es)(hp:p<n*es):p / es<n/\p % es<es/\p / es*es+p % es=p:=
 ⟨(Nat.div_lt_iff_lt_mul h0).2 hp,Nat.mod_lt _ h0,by rw[Nat.mul_comm];exact Nat.div_add_mod p es⟩
theorem zqh{es:Nat}{y:AV}{v:Value}{ys:List (List AV)}(hs:Sat H F Z st.mem w)(h0:0<es)(hr:Rep H Z y v)(hy:zbP st.mem es y=some ys):
 ∃news:List Value,news.length=ys.length*es/\(∀w2:World,(Builtin.lenOf v).run P w2=.ok ys.length w2)/\
  (∀w2:World,w2.heap=w.heap->(Builtin.firstCells es ys.length v).run P w2=.ok news.toArray w2)/\(∃b l c,v=.slice b l c)/\
  (∀r∈ys,r.length=es)/\(∀r∈ys,∀c∈r,c.isCell=true)/\
  ∀(i:Nat)(r:List AV)(j:Nat)(c:AV),ys[i]? =some r->r[j]? =some c->∃x,news[i*es+j]? =some x/\Rep H Z c x:=by
 cases hr with
 |e0=>simp[zbP]at hy;subst hy;rename_i b;refine⟨[],by simp,fun w2=>by simp[Builtin.lenOf],fun w2 _=>?_,⟨_,_,_,rfl⟩,by simp,by simp,by simp⟩;cases b<;>simp[Builtin.firstCells,loadCells,loadCellsFrom]
 | @sl _ es' rows a' len cap b o' cells f hlen hcap hbig hes hblk hcs hcell hrep=>
  simp only[zbP]at hy;split at hy
  ·rename_i hee;cases hy;subst hee;subst hlen;by_cases hne:ys=[]
   ·subst hne;refine⟨[],by simp,fun w2=>by simp[Builtin.lenOf],fun w2 _=>?_,⟨_,_,_,rfl⟩,by simp,by simp,by simp⟩;cases a'<;>simp[Builtin.firstCells,loadCells,loadCellsFrom]
   ·obtain⟨rfl,elem,fz,hH⟩:=hblk hne;refine⟨(List.range (ys.length*es')).map fun p=>f (p / es') (p % es'),by simp,fun w2=>by simp[Builtin.lenOf],fun w2 hw2=>?_,⟨_,_,_,rfl⟩,hes,hcell,fun i r j c hi hj=>?_⟩
    ·simp only[Builtin.firstCells];exact run_loadCells (P:=P) w2 ⟨b,o',none⟩ _ _ fun p hp=>by obtain⟨d1,d2,d3⟩:=ztc h0 hp;rw[zbI];refine zen (w:=w2) (by rw[hw2];exact hs.hH _ _ hH) ?_;have:=hcs _ _ d1 d2;rw[Nat.add_assoc,d3]at this;exact this
    ·have hil:i<ys.length:=(yga.1 hi).1;have hjl:j<es':=by have:=(yga.1 hj).1;have:=hes r (ygd hi);omega
     have hlt:i*es'+j<ys.length*es':=by have:(i+1)*es'<=ys.length*es':=Nat.mul_le_mul_right _ hil;rw[Nat.add_mul]at this;omega
     have e1:(i*es'+j) / es'=i:=by rw[Nat.mul_comm,Nat.mul_add_div h0,Nat.div_eq_of_lt hjl];rfl
     have e2:(i*es'+j) % es'=j:=by rw[Nat.mul_comm,Nat.mul_add_mod,Nat.mod_eq_of_lt hjl]
     exact⟨f i j,by simp[hlt,e1,e2],(hrep i r j c hi hj).mono (.refl _) (by intro i x hx;simp at hx)⟩
  ·cases hy
 | @ms _ i es' off len b capT cap hβ hcap hlen hbig=>
  simp only[zbP]at hy;split at hy
  ·rename_i es'' rows hi;split at hy
   ·rename_i hcond;obtain⟨rfl,rfl,hol⟩:=hcond;cases hy;obtain⟨_,cells,elem,g2,g3,g4,g5,g6,g7,_⟩:=hs.ent i _ _ hi hβ;have hlen':((rows.drop off).take len).length=len:=by simp;omega
    obtain⟨vs,hvl,hvs⟩:=zgT (p:=fun p v=>cells[off*es''+p]? =some v/\∀c,((rows.drop off).take len)[p / es'']?.bind (·[p % es'']?)=some c->Rep H Z c v) (len*es'') (fun p hp=>by
     obtain⟨d1,d2,d3⟩:=ztc h0 hp;have hrl:off+p / es''<rows.length:=by omega
     have hr5:=g5 rows[off+p / es''] (ygh hrl);obtain⟨v,hv,hrep⟩:=g7 (off+p / es'') _ (p % es'') (rows[off+p / es''][p % es'']'(by omega)) (ygb hrl) (ygb _);refine⟨v,?_,fun c hc=>?_⟩
     ·rw[Nat.add_mul,Nat.add_assoc,d3]at hv;exact hv
     ·rw[List.getElem?_take,if_pos d1,List.getElem?_drop,ygb hrl]at hc;simp only[Option.bind_some]at hc;rw[ygb (by omega)]at hc;cases hc;exact hrep)
    refine⟨vs,by rw[hlen',hvl],fun w2=>by simp[Builtin.lenOf,hlen'],fun w2 hw2=>?_,⟨_,_,_,rfl⟩,fun r hr=>g5 r (List.mem_of_mem_drop (List.mem_of_mem_take hr)),fun r hr=>g6 r (List.mem_of_mem_drop (List.mem_of_mem_take hr)),fun q r j c hq hj=>?_⟩
    ·have:=run_firstCells_some (P:=P) w2 es'' len ⟨b,off*es'',none⟩ len cap vs hvl (fun j v hj=>by rw[zbI];exact zen (w:=w2) (by rw[hw2];exact g2) (hvs j v hj).1)
     rw[hlen'];exact this
    ·have hql:q<len:=by have:=(yga.1 hq).1;omega
     have hjl:j<es'':=by have h1:=(yga.1 hj).1;have h2:=g5 r (List.mem_of_mem_drop (List.mem_of_mem_take (ygd hq)));omega
     have hlt:q*es''+j<vs.length:=by rw[hvl];have:(q+1)*es''<=len*es'':=Nat.mul_le_mul_right _ hql;rw[Nat.add_mul]at this;omega
     have e1:(q*es''+j) / es''=q:=by rw[Nat.mul_comm,Nat.mul_add_div h0,Nat.div_eq_of_lt hjl];rfl
     have e2:(q*es''+j) % es''=j:=by rw[Nat.mul_comm,Nat.mul_add_mod,Nat.mod_eq_of_lt hjl]
     exact⟨vs[q*es''+j],ygb hlt,(hvs _ _ (ygb hlt)).2 c (by rw[e1,e2,hq];exact hj)⟩
   ·cases hy
  ·cases hy
 | @ms0 _ i es' off a' x hβ=>
  simp only[zbP]at hy;split at hy
  ·split at hy
   ·simp at hy;subst hy;refine⟨[],by simp,fun w2=>by simp[Builtin.lenOf],fun w2 _=>?_,⟨_,_,_,rfl⟩,by simp,by simp,by simp⟩;cases a'<;>simp[Builtin.firstCells,loadCells,loadCellsFrom]
   ·cases hy
  ·cases hy
 |_=>simp[zbP]at hy
theorem zuB{t u e:TypeId}{ty:TypeId}{i:TypeInfo}{z:Value}{d:TypeDesc}{es:Nat}(he:zbZ P t=some e)(hu:P.underlying u=some d)(hd:d=.string\/∃e',d=.slice e')
 (hi:P.info? e=some i)(hz:i.zero=some z)(hsz:i.size=es){xv:Value}{n:Nat}{news:List Value}
 (hlen:∀w2:World,(Builtin.lenOf xv).run P w2=.ok n w2)(hnews:∀w2:World,w2.heap=w.heap->(Builtin.firstCells es n xv).run P w2=.ok news.toArray w2)
 (base:Option Addr)(sLen sCap:Nat):
 (sLen+n<=sCap->∀aB,base=some aB->(Builtin.append_ #[t,u] ty #[.slice base sLen sCap,xv]).run P w =
  ((storeCells (aB.add (sLen*es)) news).run P w).andThen fun _ w'=>.ok (.slice base (sLen+n) sCap) w')/\
 (sLen+n<=sCap->base=none->(Builtin.append_ #[t,u] ty #[.slice base sLen sCap,xv]).run P w=.ok (.slice none (sLen+n) sCap) w)/\
 (∀olds:List Value,(∀w2:World,w2.heap=w.heap->(Builtin.firstCells es sLen (.slice base sLen sCap)).run P w2=.ok olds.toArray w2)->sCap<sLen+n->((sLen+n:Nat):Int)<=9223372036854775807->
  Builtin.nextslicecap (sLen+n) sCap*i.bytes<=281474976710656->
  (Builtin.append_ #[t,u] ty #[.slice base sLen sCap,xv]).run P w =
   .ok (.slice (some ⟨w.heap.size,0,none⟩) (sLen+n) (grownCap w (sLen+n) sCap e))
    (w.drew.alloc (.cells (olds.toArray++news.toArray++Builtin.zeroCells z.cells (grownCap w (sLen+n) sCap e-(sLen+n))) e))):=by
 have hsize:∀w2:World,(sizeOf e).run P w2=.ok es w2:=fun w2=>by simp[sizeOf,typeInfo,hi,hsz]
 have hti:∀w2:World,(typeInfo e).run P w2=.ok i w2:=fun w2=>by simp[typeInfo,hi]
 have hzv:∀w2:World,(zeroValue e).run P w2=.ok z w2:=fun w2=>by simp[zeroValue,typeInfo,hi,hz]
 refine⟨fun hroom aB hb=>?_,fun hroom hb=>?_,fun olds holds hgrow h63 hfit=>?_⟩
 ·subst hb;have hf:=hnews w rfl;rcases hd with rfl|⟨e',rfl⟩
  ·simp[Builtin.append_,run_underlying (zaJ he),run_underlying hu,hsize,hlen,hroom,hf]
  ·simp[Builtin.append_,run_underlying (zaJ he),run_underlying hu,hsize,hlen,hroom,hf]
 ·subst hb;have hf:=hnews w rfl;rcases hd with rfl|⟨e',rfl⟩
  ·simp[Builtin.append_,run_underlying (zaJ he),run_underlying hu,hsize,hlen,hroom,hf]
  ·simp[Builtin.append_,run_underlying (zaJ he),run_underlying hu,hsize,hlen,hroom,hf]
 ·have hn:¬(sLen+n<=sCap):=by omega
  have h63':¬(9223372036854775807<((sLen:Int)+(n:Int))):=by omega
  have h48':¬(281474976710656<Builtin.nextslicecap (sLen+n) sCap*i.bytes):=by omega
  have hf:=hnews w.drew rfl;have hfo:=holds w.drew rfl;rcases hd with rfl|⟨e',rfl⟩
  ·simp[Builtin.append_,run_underlying (zaJ he),run_underlying hu,hsize,hti,hzv,hlen,hn,h63',h48',Question.forced,hf,hfo,newRow,grownCap,Array.append_assoc];congr 2;apply Array.ext';simp
  ·simp[Builtin.append_,run_underlying (zaJ he),run_underlying hu,hsize,hti,hzv,hlen,hn,h63',h48',Question.forced,hf,hfo,newRow,grownCap,Array.append_assoc];congr 2;apply Array.ext';simp
theorem zq1(w:World)(need old:Nat)(e:TypeId):need<=grownCap w need old e:=grownCap_ge w need old e
theorem znV{es:Nat}{x:AV}{xv yv:Value}{ys:List (List AV)}{t u e ty:TypeId}{i:TypeInfo}{z:Value}{d:TypeDesc}{r:Ev}{news:List Value}(hs:Sat H F Z st.mem w)(h0:0<es)(he:zbZ P t=some e)
 (hu:P.underlying u=some d)(hd:d=.string\/∃e',d=.slice e')(hi:P.info? e=some i)(hz:i.zero=some z)(hsz:i.size=es)(hzc:z.cells.size=es)(hbytes:i.bytes<=128)
 (hlen:∀w2:World,(Builtin.lenOf yv).run P w2=.ok ys.length w2)(hnews:∀w2:World,w2.heap=w.heap->(Builtin.firstCells es ys.length yv).run P w2=.ok news.toArray w2)
 (hnl:news.length=ys.length*es)(hys1:∀r∈ys,r.length=es)(hys2:∀r∈ys,∀c∈r,c.isCell=true)
 (hys3:∀(i:Nat)(r:List AV)(j:Nat)(c:AV),ys[i]? =some r->r[j]? =some c->∃x,news[i*es+j]? =some x/\x.oneCell'=true/\Rep H Z c x)
 (hx:Rep H Z x xv){sn:Bool}(hp:sn=true\/e=T5)(hev:zdJ sn st.mem es x ys=some r)(hside:r.1):
 ∃v w' β',(Builtin.append_ #[t,u] ty #[xv,yv]).run P w=.ok v w'/\zcY Z β'/\Rep H β' r.2.1 v/\Sat H F β' r.2.2 w':=by
 have hnone:∀v∈news,v.oneCell'=true:=by intro v hv;obtain⟨p,hp,rfl⟩:=List.getElem_of_mem hv;rw[hnl]at hp;obtain⟨d1,d2,d3⟩:=ztc h0 hp;have hr:=hys1 ys[p / es] (ygh d1);obtain⟨x,g1,g2,_⟩:=hys3 (p / es) ys[p / es] (p % es) (ys[p / es][p % es]'(by omega)) (ygb d1) (ygb _);rw[d3]at g1;rw[ygb (by omega)]at g1;cases g1;exact g2
 have fit:∀m c,c<m->m<=LIM->((m:Nat):Int)<=9223372036854775807/\Builtin.nextslicecap m c*i.bytes<=281474976710656:=by intro m c hc hm;unfold LIM at hm;refine⟨by omega,growslice_fits hc ?_⟩;have:m*i.bytes<=1099511627776*128:=Nat.mul_le_mul hm hbytes;omega
 have okp:∀{cells:Array Value},(∀v,cells[0]? =some v->∃c,apP sn c=true/\Rep H Z c v)->okC es cells e:=fun h=>by
  cases sn with
  |true=>exact zoQ h
  |false=>exact zxv (hp.resolve_left (by simp)) h
 have fresh:∀(mem0:List Ent)(w0:World)(rows:List (List AV))(olds:List Value)(m cap:Nat),Sat H F Z mem0 w0->rows.length+ys.length=m->m<=cap->olds.length=rows.length*es->
  (∀r∈rows,r.length=es)->(∀r∈rows,∀c∈r,c.isCell=true)->
  (∀(i:Nat)(r:List AV)(j:Nat)(c:AV),rows[i]? =some r->r[j]? =some c->∃x,olds[i*es+j]? =some x/\Rep H Z c x)->rows++ys≠[]->hd1 (apP sn) ((rows++ys).headD [])=true->
  Sat H F (Z++[some (w0.heap.size,es,cap)]) (mem0++[.arr es (rows++ys)]) (w0.alloc (.cells (olds.toArray++news.toArray++Builtin.zeroCells z.cells (cap-m)) e)):=by
  intro mem0 w0 rows olds m cap hs0 hm hcap hol q1 q2 q3 hne hnp;have hall:∀(q:Nat)(r:List AV)(j:Nat)(c:AV),(rows++ys)[q]? =some r->r[j]? =some c->∃v,(olds.toArray++news.toArray++Builtin.zeroCells z.cells (cap-m))[q*es+j]? =some v/\Rep H Z c v:=?_;refine hs0.alloc_own ?_ (by simp;omega) ?_ ?_ hall (fun _=>okp (zyg hnp (fun r hr=>?_) (fun e=>(hne e).elim) (fun r c hr hc=>by simpa using hall 0 r 0 c hr hc)))
  ·simp only[Array.size_append,List.size_toArray,size_zeroCells,hol,hnl,hzc];rw[<-Nat.add_mul,<-Nat.add_mul,hm,Nat.add_sub_cancel' hcap]
  ·intro r hr;rcases List.mem_append.1 hr with hr|hr
   ·exact q1 r hr
   ·exact hys1 r hr
  ·intro r hr;rcases List.mem_append.1 hr with hr|hr
   ·exact q2 r hr
   ·exact hys2 r hr
  ·have hr:=List.mem_of_mem_head? (by rw[hr];rfl);have hl:r.length=es:=by
    rcases List.mem_append.1 hr with hr|hr
    ·exact q1 r hr
    ·exact hys1 r hr
   intro e;rw[e]at hl;simp at hl;omega
  ·intro q r j c hq hj;rw[List.getElem?_append]at hq;split at hq
   ·rename_i hlt;obtain⟨x,hx1,hx2⟩:=q3 q r j c hq hj;have hl:=(yga.1 hx1).1;refine⟨x,?_,hx2⟩;rw[Array.append_assoc,Array.getElem?_append_left (by simpa using hl)];simpa using hx1
   ·rename_i hge;obtain⟨x,hx1,_,hx2⟩:=hys3 (q-rows.length) r j c hq hj;have hl:=(yga.1 hx1).1;refine⟨x,?_,hx2⟩;have e1:q*es+j-olds.length=(q-rows.length)*es+j:=by rw[hol,Nat.sub_mul];have:rows.length*es<=q*es:=Nat.mul_le_mul_right _ (by omega);omega
    have e2:olds.length<=q*es+j:=by rw[hol];have:rows.length*es<=q*es:=Nat.mul_le_mul_right _ (by omega);omega
    rw[Array.append_assoc,Array.getElem?_append_right (by simpa using e2),List.size_toArray,e1,Array.getElem?_append_left (by simpa using hl)];simpa using hx1
 have noold:∀w2:World,∀b:Option Addr,(Builtin.firstCells es 0 (.slice b 0 0)).run P w2=.ok (([]:List Value).toArray) w2:=by intro w2 b;cases b<;>simp[Builtin.firstCells,loadCells,loadCellsFrom]
 have repms:∀(mem0:List Ent)(w0:World)(m cap:Nat),Sat H F Z mem0 w0->m<=cap->m<=LIM->Rep H (Z++[some (w0.heap.size,es,cap)]) (.ms mem0.length es 0 m) (.slice (some ⟨w0.heap.size,0,none⟩) m cap):=by
  intro mem0 w0 m cap hs0 hm hl;have:Rep H (Z++[some (w0.heap.size,es,cap)]) (.ms mem0.length es 0 m) (.slice (some ⟨w0.heap.size,0*es,none⟩) m cap):=
   .ms (b:=w0.heap.size) (capT:=cap) (by rw[<-hs0.hl];simp) (by omega) hm (by unfold LIM at hl;unfold BIG;omega)
  simpa using this
 have zero:∀(mem0:List Ent)(b:Option Addr),Sat H F Z mem0 w->ys.length<=LIM->hd1 (apP sn) (ys.headD [])=true->
  ∃v w' β',(Builtin.append_ #[t,u] ty #[.slice b 0 0,yv]).run P w=.ok v w'/\zcY Z β'/\Rep H β' (.ms mem0.length es 0 ys.length) v/\Sat H F β' (mem0++[.arr es ys]) w':=by
  intro mem0 b hs0 hl hnp;obtain⟨r1,r2,r3⟩:=zuB (P:=P) (w:=w) (ty:=ty) he hu hd hi hz hsz hlen hnews b 0 0;by_cases hn0:ys.length=0
  ·have hy0:ys=[]:=List.length_eq_zero_iff.1 hn0;have hn:news=[]:=List.length_eq_zero_iff.1 (by rw[hnl,hn0];simp);subst hy0;subst hn;refine⟨.slice b 0 0,w,Z++[none],?_,.append _ _,.ms0 (x:=none) (by rw[<-hs0.hl];simp),hs0.own_none es⟩;cases b with
   |none=>simpa using r2 (by simp) rfl
   |some aB=>have:=r1 (by simp) aB rfl;simpa[storeCells]using this
  ·obtain⟨f1,f2⟩:=fit ys.length 0 (by omega) hl;have rr:=r3 [] (fun w2 _=>noold w2 b) (by omega) (by omega) (by rw[Nat.zero_add];exact f2);simp only[Nat.zero_add]at rr;have hc:=zq1 w ys.length 0 e;have hsd:Sat H F Z mem0 w.drew:=hs0.of_heap rfl ⟨rfl,rfl,rfl⟩;refine⟨_,_,_,rr,.append _ _,repms mem0 w.drew ys.length _ hsd hc hl,?_⟩;have:=fresh mem0 w.drew [] [] ys.length (grownCap w ys.length 0 e) hsd (by simp) hc (by simp) (by simp) (by simp) (by simp) (by intro e;apply hn0;simpa using congrArg List.length e) (by simpa using hnp);simpa using this
 unfold zdJ at hev;split at hev
 ·cases hev;cases hx with
  |e0=>exact zero st.mem _ hs hside.1 hside.2
 ·rename_i m es' off len;split at hev
  ·rename_i es'' rows hm;cases hev;obtain⟨rfl,rfl,rfl,hlr,hlim,hnp,hpos⟩:=hside;cases hx with
   | @ms _ _ _ _ _ b capT cap hβ hcap hlc hbig=>
    obtain⟨_,cells,elem,g2,g3,g4,g5,g6,g7,g8⟩:=hs.ent m _ _ hm hβ;have htl:(rows.take len).length=len:=by simp;omega
    have q1:∀r∈rows.take len,r.length=es'':=fun r hr=>g5 r (List.mem_of_mem_take hr);have q2:∀r∈rows.take len,∀c∈r,c.isCell=true:=fun r hr=>g6 r (List.mem_of_mem_take hr);obtain⟨r1,r2,r3⟩:=zuB (P:=P) (w:=w) (ty:=ty) he hu hd hi hz hsz hlen hnews (some ⟨b,0*es'',none⟩) len cap;by_cases hroom:len+ys.length<=cap
    ·have rr:=r1 hroom _ rfl;have e0:(⟨b,0*es'',none⟩:Addr).add (len*es'')=⟨b,len*es'',none⟩:=by rw[zbI];simp
     rw[e0]at rr;have hrm:len*es''+news.length<=cells.size:=by rw[g3,hnl,<-Nat.add_mul];exact Nat.mul_le_mul_right _ (by omega)
     have hst:=zcv (P:=P) b elem news (len*es'') 0 cells w g2 (by simpa using hrm) hnone;rw[hst]at rr;simp only[Nat.add_zero,Result.andThen_ok]at rr;have hsr:=hs.rewrite (rows':=rows.take len++ys) hm hβ (cells:=zc6 cells (len*es'') news) (elem:=elem) (by rw[ze1 hrm];exact g3) (by simp;omega)
      (fun r hr=>by rcases List.mem_append.1 hr with hr|hr;exact q1 r hr;exact hys1 r hr) (fun r hr=>by rcases List.mem_append.1 hr with hr|hr;exact q2 r hr;exact hys2 r hr)
      (fun q r j c hq hj=>by
       rw[zbM hrm];rw[List.getElem?_append,htl]at hq;split at hq
       ·rename_i hql;rw[List.getElem?_take,if_pos hql]at hq;obtain⟨v,hv,hrep⟩:=g7 q r j c hq hj;have hjl:j<es'':=by have:=(yga.1 hj).1;have:=g5 r (ygd hq);omega
        have:(q+1)*es''<=len*es'':=Nat.mul_le_mul_right _ hql;rw[Nat.add_mul]at this;exact⟨v,by rw[if_pos (by omega)];exact hv,hrep⟩
       ·rename_i hql;obtain⟨v,hv,_,hrep⟩:=hys3 (q-len) r j c hq hj;have hl:=(yga.1 hv).1;have h1:len*es''<=q*es'':=Nat.mul_le_mul_right _ (by omega);have e1:q*es''+j-len*es''=(q-len)*es''+j:=by rw[Nat.sub_mul];omega
        exact⟨v,by rw[if_neg (by omega),if_pos (by omega),e1];exact hv,hrep⟩)
      (by
       intro hne;have hsz:(zc6 cells (len*es'') news).size=cells.size:=ze1 hrm;cases sn with
       |false=>
        have hl1:1<=len:=by simpa[Nat.blt]using hpos
        have hl0:0<len:=hl1;have g8:=g8 (by rintro rfl;simp at htl;omega);have h0':(zc6 cells (len*es'') news)[0]? =cells[0]?:=by rw[zbM hrm,if_pos (Nat.mul_pos hl0 h0)]
        refine⟨fun h=>by rw[hsz];exact g8.1 ⟨h.1,by rw[<-h0'];exact h.2⟩,fun h=>g8.2 ?_⟩;obtain⟨n,hn⟩:=h;exact⟨n,by rw[<-h0'];exact hn⟩
       |true=>
        by_cases hl0:len=0
        ·subst hl0;cases ys with
         |nil=>simp at hne
         |cons r ys'=>
          refine zoQ (H:=H) (Z:=Z) fun v hv=>?_;have hl:=hys1 r (by simp);cases r with
          |nil=>simp at hl;omega
          |cons c r'=>obtain⟨u,hu,_,hrep⟩:=hys3 0 (c:: r') 0 c rfl rfl;have hul:=(yga.1 hu).1;rw[zbM hrm,if_neg (by omega),if_pos (by omega)]at hv;simp only[Nat.zero_mul,Nat.add_zero,Nat.sub_zero]at hu hv;rw[hu]at hv;cases hv;exact⟨c,by simpa[hd1,apP]using hnp,hrep⟩
        ·have g8:=g8 (by rintro rfl;simp at htl;omega);have h0':(zc6 cells (len*es'') news)[0]? =cells[0]?:=by rw[zbM hrm,if_pos (Nat.mul_pos (by omega) h0)]
         refine⟨fun h=>by rw[hsz];exact g8.1 ⟨h.1,by rw[<-h0'];exact h.2⟩,fun h=>g8.2 ?_⟩;obtain⟨n,hn⟩:=h;exact⟨n,by rw[<-h0'];exact hn⟩)
     have hmi:(st.mem.set m (Ent.arr es'' (rows.take len++ys)))[m]? =some (.arr es'' (rows.take len++ys)):=by rw[List.getElem?_set];simp[(yga.1 hm).1]
     have hmv:=hsr.move hmi hβ;rw[List.set_set]at hmv;refine⟨_,_,_,rr,.append _ _,?_,hmv⟩;have:Rep H (Z++[some (b,es'',capT)]) (.ms st.mem.length es'' 0 (len+ys.length)) (.slice (some ⟨b,0*es'',none⟩) (len+ys.length) cap):=
      .ms (b:=b) (capT:=capT) (by rw[<-hs.hl];simp) (by omega) hroom (by unfold LIM at hlim;unfold BIG;omega)
     simpa using this
    ·obtain⟨olds,hol1,hol2,hol3,_,_,_,hol4⟩:=zqh (P:=P) (st:=st) (w:=w) hs h0 (Rep.ms (i:=m) (off:=0) hβ hcap hlc hbig) (ys:=rows.take len) (by simp only[zbP,hm];simp;exact hlr);rw[htl]at hol3 hol1;obtain⟨f1,f2⟩:=fit (len+ys.length) cap (by omega) hlim;have rr:=r3 olds (fun w2 hw2=>hol3 w2 hw2) (by omega) f1 f2;have hc:=zq1 w (len+ys.length) cap e;have hsd:Sat H F Z (st.mem.set m .dead) w.drew:=(hs.kill m).of_heap rfl ⟨rfl,rfl,rfl⟩;refine⟨_,_,Z++[some (w.drew.heap.size,es'',grownCap w (len+ys.length) cap e)],rr,.append _ _,?_,?_⟩
     ·have:=repms (st.mem.set m .dead) w.drew (len+ys.length) _ hsd hc hlim;simpa using this
     ·exact fresh (st.mem.set m .dead) w.drew (rows.take len) olds (len+ys.length) _ hsd (by rw[htl]) hc (by rw[htl];exact hol1) q1 q2 hol4 (by intro e;have:=congrArg List.length e;simp only[yhr,htl,yht]at this;omega) hnp
   | @ms0 _ _ _ _ ab _ hβ=>have:=zero (st.mem.set m .dead) ab (hs.kill m) (by omega) (by simpa using hnp);simpa using this
  ·cases hev
 ·cases hev
end
end Go.Fw
namespace Go.Fw
open Go
section
variable {P:Program}{H:Hp}{F:Fr}{Z:Bt}{o:Oper}{a:Act}{w:World}{mem:List Ent}
theorem Sat.freeze{i es:Nat}{rows:List (List AV)}(hs:Sat H F Z mem w)(hi:mem[i]? =some (.arr es rows))(hp:∀r∈rows,∀c∈r,c.pure=true):
 ∃H',HX F H H'/\Sat H' F Z (mem.set i .dead) w/\∀n v,n=rows.length->Rep H Z (.ms i es 0 n) v->Rep H' Z (.sl es rows) v:=by
 have hβ:∃x,Z[i]? =some x:=by have:=(yga.1 hi).1;exact⟨Z[i]'(by rw[hs.hl];exact this),ygb _⟩
 obtain⟨x,hβ⟩:=hβ;cases x with
 |none=>
  have hrows:rows=[]:=hs.ent i _ _ hi hβ;refine⟨H,.refl _ _,hs.kill i,fun n v hn hv=>?_⟩;subst hrows;cases hv with
  |ms hb' _ _ _=>rw[hβ]at hb';cases hb'
  |ms0 hb'=>exact .sl 0 0 #[] (fun _ _=>undef) rfl (Nat.le_refl _) (Nat.zero_le _) (by simp) (by simp) (by simp) (by simp) (by simp)
 |some x=>
  obtain⟨blk,es',cap⟩:=x;obtain⟨rfl,cells,elem,g2,g3,g4,g5,g6,g7,_⟩:=hs.ent i _ _ hi hβ;have hap:=hs.apart i _ _ hi rfl hβ;have hH:=zdt (b:=blk) (o:=.cells cells elem (0,0)) hap.1;have hk:=hs.kill i;have get:∀(j:Nat)(e:Ent),(mem.set i Ent.dead)[j]? =some e->e.live=true->j≠i/\mem[j]? =some e:=by
   intro j e hj he;rw[List.getElem?_set]at hj;split at hj
   ·split at hj
    ·cases hj;simp at he
    ·cases hj
   ·rename_i e;exact⟨fun h=>e h.symm,hj⟩
  have hs':Sat (zgb H blk (.cells cells elem (0,0))) F Z (mem.set i .dead) w:=
   {hH:=fun b' o hb'=>by
     unfold zgb at hb';split at hb'
     ·rename_i e;subst e;cases hb';exact g2
     ·exact hk.hH _ _ hb'
    gh:=hk.gh.mono hH
    hF:=hk.hF
    sm:=hk.sm
    hl:=hk.hl
    ent:=fun j e y hj hy=>(hk.ent j e y hj hy).mono hH (.refl _) fun _ _ _ _ _=>rfl
    apart:=fun j e y hj he hy=>by
     refine⟨?_,(hk.apart j e y hj he hy).2⟩;unfold zgb;split
     ·rename_i e';obtain⟨hne,hj'⟩:=get j e hj he;exact absurd (hs.inj j i e _ y _ hj' he hi rfl hy hβ e') hne
     ·exact(hk.apart j e y hj he hy).1
    inj:=hk.inj}
  refine⟨_,ziw hap,hs',fun n v hn hv=>?_⟩;cases hv with
  | @ms _ _ _ _ _ b' capT' cap' hb' hcap hlc hbg=>
   rw[hβ]at hb';cases hb';subst hn;refine .sl blk (0*es') cells (fun i j=>cells.getD (i*es'+j) undef) (by simp) hlc hbg g5
    (fun _=>⟨rfl,elem,(0,0),by simp[zgb]⟩) (fun q j hq hj=>?_) g6 fun q r j c hq hj=>?_
   ·have hlt:q*es'+j<cells.size:=by rw[g3];have:(q+1)*es'<=cap*es':=Nat.mul_le_mul_right _ (by omega);rw[Nat.add_mul q 1]at this;omega
    rw[Nat.zero_mul,Nat.zero_add];simp[hlt]
   ·obtain⟨v,hv,hrep⟩:=g7 q r j c hq hj;have:cells.getD (q*es'+j) undef=v:=by simp[hv]
    rw[this];exact(hrep.pure (hp r (ygd hq) c (ygd hj)) []).mono hH (.refl _)
  |ms0 hb'=>have:rows=[]:=List.eq_nil_of_length_eq_zero hn.symm;subst this;exact .sl 0 0 #[] (fun _ _=>undef) rfl (Nat.le_refl _) (Nat.zero_le _) (by simp) (by simp) (by simp) (by simp) (by simp)
theorem zcH.fz{i es:Nat}{rows:List (List AV)}(h:zcH P H F Z o a w (.ms i es 0 rows.length) mem)(hi:mem[i]? =some (.arr es rows))(hp:∀r∈rows,∀c∈r,c.pure=true):zcH P H F Z o a w (.sl es rows) (mem.set i .dead):=by obtain⟨x,w',H',β',h1,h2,h3,h4,h5⟩:=h;obtain⟨H'',g1,g2,g3⟩:=h5.freeze hi hp;exact⟨x,w',H'',β',h1,h2.trans g1,h3,g3 _ _ rfl h4,g2⟩
end
end Go.Fw
namespace Go.Fw
open Go
section
variable {P:Program}{H:Hp}{F:Fr}{Z:Bt}{N:Nat}{st:St}{a:Act}{w:World}{o:Oper}
theorem zrp{t:TypeId}{cs:Array Value}{off:Nat}{v:Value}(ha:znT P t=some false)(hv:cs[off]? =some v)(w:World):(part t cs off).run P w=.ok v w:=by simp[part,zha ha,hv]
theorem zrm{k:Nat}{t:TypeId}(h:zwm P k t=true):znT P t=some false:=by unfold zwm at h;unfold znT;split at h<;>simp_all
theorem zAt{t:TypeId}(h:zwm P 0 t=true):P.underlying t=some .bool:=by unfold zwm at h;split at h<;>simp_all
theorem zAu{t:TypeId}(h:zwm P 1 t=true):P.underlying t=some .string:=by unfold zwm at h;split at h<;>simp_all
theorem zAv{t:TypeId}(h:zwm P 2 t=true):∃k,P.underlying t=some (.int k):=by unfold zwm at h;split at h<;>simp_all
theorem ztl(d:Nat)(w:World)(xs ys:Array Value):∀(ks:List Nat)(fs:List Go.Field)(i:Nat)(cs ds:List AV)(b:Bool),ziV P i ks fs=true->
 (∀(j:Nat) c,cs[j]? =some c->∃v,xs[i+j]? =some v/\Rep H Z c v)->(∀(j:Nat) c,ds[j]? =some c->∃v,ys[i+j]? =some v/\Rep H Z c v)->eqA ks cs ds=some b->
 (Op.eqFields (d+1) xs ys fs).run P w=.ok b w
 |[],f:: fs,i,cs,ds,b,hp,_,_,_=>by simp[ziV]at hp
 |k:: ks,[],i,cs,ds,b,hp,_,_,_=>by simp[ziV]at hp
 |[],[],i,cs,ds,b,_,_,_,he=>by unfold eqA at he;split at he<;>first|(cases he;done)|(simp only[Option.some.injEq]at he;subst he;simp[Op.eqFields])|(rename_i e _ _;cases e)
 |k:: ks,f:: fs,i,cs,ds,b,hp,hx,hy,he=>by
  simp only[ziV,yhb,yhf,ne_eq,yhe]at hp;obtain⟨⟨⟨p1,p2⟩,p3⟩,p4⟩:=hp;have key:∃c c' cs' ds' r,cs=c:: cs'/\ds=c':: ds'/\eqA ks cs' ds'=some r/\∀u v,Rep H Z c u->Rep H Z c' v->∃e,(Op.equalIn (d+1) f.type u v).run P w=.ok e w/\b=(e&&r):=by
   unfold eqA at he;split at he
   ·rename_i e;cases e
   ·rename_i ks' k1 n l k2 m l' e;cases e;split at he
    ·rename_i hk;subst hk;simp only[ygc,Option.some.injEq]at he;obtain⟨r,hr,rfl⟩:=he;refine⟨_,_,_,_,r,rfl,rfl,hr,fun u v ru rv=>?_⟩;obtain⟨rfl,_⟩:=zct ru;obtain⟨rfl,_⟩:=zct rv;obtain⟨k3,hb⟩:=zAv p3;exact⟨_,run_equalIn_int w d f.type _ k3 _ _ hb,rfl⟩
    ·cases he
   ·rename_i ks' x l y l' e;cases e;simp only[ygc,Option.some.injEq]at he;obtain⟨r,hr,rfl⟩:=he;refine⟨_,_,_,_,r,rfl,rfl,hr,fun u v ru rv=>?_⟩;have e1:=zdg ru;have e2:=zdg rv;subst e1 e2;exact⟨_,run_equalIn_bool' w d f.type _ _ (zAt p3),rfl⟩
   ·rename_i ks' x l y l' e;cases e;simp only[ygc,Option.some.injEq]at he;obtain⟨r,hr,rfl⟩:=he;refine⟨_,_,_,_,r,rfl,rfl,hr,fun u v ru rv=>?_⟩;obtain⟨e1,_⟩:=zcu ru;obtain⟨e2,_⟩:=zcu rv;subst e1 e2;refine⟨_,run_equalIn_string w d f.type _ _ (zAu p3),?_⟩;simp[ByteArray.toList_eq]
   ·cases he
  obtain⟨c,c',cs',ds',r,rfl,rfl,k2,k3⟩:=key;obtain⟨u,hu,ru⟩:=hx 0 c rfl;obtain⟨v,hv,rv⟩:=hy 0 c' rfl;rw[Nat.add_zero]at hu hv;have pu:=zrp (zrm p3) hu w;have pv:=zrp (zrm p3) hv w;obtain⟨e,k1,rfl⟩:=k3 u v ru rv;have ih:=ztl d w xs ys ks fs (i+1) cs' ds' r p4 (fun j c hj=>by have:=hx (j+1) c (by simpa using hj);rw[show i+(j+1)=i+1+j by omega]at this;exact this)
   (fun j c hj=>by have:=hy (j+1) c (by simpa using hj);rw[show i+(j+1)=i+1+j by omega]at this;exact this) k2
  simp only[Op.eqFields,p1,ne_eq,not_false_eq_true,if_true,Sem.run_bind,p2,pu,pv,Result.andThen_ok,k1];cases e with
  |true=>simpa using ih
  |false=>simp
theorem zuN{op:BinOp}{ks:List Nat}{x y:Ar}{x' y':Operand}{t t':TypeId}{cs ds:List AV}{b:Bool}(h:Rel H F Z N st a w)(hx:zah x x'=true)(hy:zah y y'=true)(ht:zp6 P ks t=true)
 (ho:o.op=.binOp op t x' y' t')(h1:ar st.env x=.agg cs)(h2:ar st.env y=.agg ds)(he:eqA ks cs ds=some b):
 (op=.eql->zcH P H F Z o a w (.bool b) st.mem)/\(op=.neq->zcH P H F Z o a w (.bool (!b)) st.mem):=by
 have r1:=h.ar hx;rw[h1]at r1;have r2:=h.ar hy;rw[h2]at r2;unfold zp6 at ht;split at ht
 ·rename_i fs hu;simp only[yhb,yho]at ht;obtain⟨⟨q1,q2⟩,q3⟩:=ht;have hfs:P.fieldsOf t=fs:=by simp[Program.fieldsOf,hu]
  generalize he1:a.eval x'=u at r1;generalize he2:a.eval y'=v at r2;cases r1 with
  | @agg _ _ xs hl hcell hrep=>
   cases r2 with
   | @agg _ _ ys hl' hcell' hrep'=>
    have hq:∀w,(Op.equalIn 10000 t (.agg xs) (.agg ys)).run P w=.ok b w:=fun w=>by
     rw[show(10000:Nat)=9999+1 from rfl,run_equalIn_agg w 9999 t xs ys (by rw[hfs];exact hu) q1,hfs];refine ztl (H:=H) (Z:=Z) 9998 w xs ys ks fs.toList 0 cs ds b q3 (fun j c hj=>?_) (fun j c hj=>?_) he
     ·have:j<xs.size:=by have:=(yga.1 hj).1;omega
      rw[Nat.zero_add];exact⟨xs[j],Array.getElem?_eq_getElem this,hrep j c _ hj (Array.getElem?_eq_getElem this)⟩
     ·have:j<ys.size:=by have:=(yga.1 hj).1;omega
      rw[Nat.zero_add];exact⟨ys[j],Array.getElem?_eq_getElem this,hrep' j c _ hj (Array.getElem?_eq_getElem this)⟩
    constructor
    ·rintro rfl;refine .same (x:=.bool b) h ?_ .bool;simp only[execOp,ho,he1,he2,Sem.run_bind,run_eqGuard_agg w _ t _ _ _ _ q2,Result.andThen_ok,run_eql_struct,hq,Sem.run_pure]
    ·rintro rfl;refine .same (x:=.bool (!b)) h ?_ .bool;simp only[execOp,ho,he1,he2,Sem.run_bind,run_eqGuard_agg w _ t _ _ _ _ q2,Result.andThen_ok,run_neq_struct,hq,Sem.run_pure]
 ·cases ht
end
end Go.Fw
namespace Go.Fw
open Go
section
variable {H:Hp}{F:Fr}{Z:Bt}{mem:List Ent}{w:World}
theorem Sat.alloc_ent(h:Sat H F Z mem w){o:Obj}{a c:Nat}{e0:Ent}(hlv:e0.live=true)(hok:EntOk H (Z++[some (w.heap.size,a,c)]) (w.alloc o) e0 (some (w.heap.size,a,c))):
 Sat H F (Z++[some (w.heap.size,a,c)]) (mem++[e0]) (w.alloc o):=by
 have hn:=h.none_at_size;have hB:=zcY.append Z [some (w.heap.size,a,c)];have old:∀(i:Nat)(e:Ent),(mem++[e0])[i]? =some e->(i<mem.length/\mem[i]? =some e)\/(i=mem.length/\e=e0):=by
  intro i e hi;rw[List.getElem?_append]at hi;split at hi
  ·exact .inl ⟨by assumption,hi⟩
  ·rename_i hlt;have:i-mem.length=0:=by have:=(yga.1 hi).1;simp at this;omega
   rw[this]at hi;simp at hi;exact .inr ⟨by omega,hi.symm⟩
 have oldβ:∀i x,(Z++[some (w.heap.size,a,c)])[i]? =some x->(i<mem.length->Z[i]? =some x)/\(i=mem.length->x=some (w.heap.size,a,c)):=by
  intro i x hi;rw[<-h.hl];constructor
  ·intro hlt;rw[yge hlt]at hi;exact hi
  ·intro he;subst he;simp at hi;exact hi.symm
 refine{hH:=fun b o' x=>?_,gh:=h.gh,hF:=fun b o' x=>?_,sm:=⟨h.sm.os,h.sm.tape,h.sm.output,Nat.le_trans h.sm.size (by simp only[World.alloc,Array.size_push];omega)⟩,hl:=by simp[h.hl],ent:=fun i e x hi hx=>?_,apart:=fun i e x hi he hx=>?_,inj:=fun i j e e' x y hi he hj he' hx hy hxy=>?_}
 ·rw[heap_alloc_old w _ b (zaT (h.hH _ _ x))];exact h.hH _ _ x
 ·rw[heap_alloc_old w _ b (zaT (h.hF _ _ x))];exact h.hF _ _ x
 ·rcases old i e hi with⟨hlt,hi'⟩|⟨hlt,rfl⟩
  ·have hx':=(oldβ i x hx).1 hlt;refine(h.ent i e x hi' hx').mono (zgm.refl _) hB fun b es cap hxe hl=>?_;subst hxe;exact heap_alloc_old w _ b ((h.ent i e _ hi' hx').lt hl)
  ·have hx':=(oldβ i x hx).2 hlt;subst hx';exact hok
 ·rcases old i e hi with⟨hlt,hi'⟩|⟨hlt,rfl⟩
  ·exact h.apart i e x hi' he ((oldβ i _ hx).1 hlt)
  ·have hx':=(oldβ i _ hx).2 hlt;cases hx';exact hn
 ·rcases old i e hi with⟨hlt,hi'⟩|⟨hlt,rfl⟩<;>rcases old j e' hj with⟨hlt',hj'⟩|⟨hlt',rfl⟩
  ·exact h.inj i j e e' x y hi' he hj' he' ((oldβ i _ hx).1 hlt) ((oldβ j _ hy).1 hlt') hxy
  ·have h1:=(oldβ i _ hx).1 hlt;have h2:=(oldβ j _ hy).2 hlt';cases h2;have:=(h.ent i e _ hi' h1).lt (b:=x.1) (es:=x.2.1) (cap:=x.2.2) he;simp at hxy;omega
  ·have h1:=(oldβ j _ hy).1 hlt';have h2:=(oldβ i _ hx).2 hlt;cases h2;have:=(h.ent j e' _ hj' h1).lt (b:=y.1) (es:=y.2.1) (cap:=y.2.2) he';simp at hxy;omega
  ·omega
theorem Sat.rewrite_ent(h:Sat H F Z mem w){i b es cap:Nat}{e0 e1:Ent}{o1:Obj}(hi:mem[i]? =some e0)(h0:e0.live=true)(h1:e1.live=true)(hb:Z[i]? =some (some (b,es,cap)))
 (hok:EntOk H Z (zlv w b o1) e1 (some (b,es,cap))):Sat H F Z (mem.set i e1) (zlv w b o1):=by
 have hlt:b<w.heap.size:=(h.ent i _ _ hi hb).lt h0;have hap:=h.apart i _ _ hi h0 hb;have get:∀(j:Nat)(e:Ent),(mem.set i (e1))[j]? =some e->(j=i/\e=e1)\/(j≠i/\mem[j]? =some e):=by
  intro j e hj;rw[List.getElem?_set]at hj;split at hj
  ·rename_i e';subst e';split at hj
   ·cases hj;exact .inl ⟨rfl,rfl⟩
   ·cases hj
  ·rename_i e';exact .inr ⟨fun x=>e' x.symm,hj⟩
 refine{hH:=fun c o x=>?_,gh:=h.gh,hF:=fun c o x=>?_,sm:=⟨h.sm.os,h.sm.tape,h.sm.output,by have:=h.sm.size;simpa[zlv]using this⟩,hl:=by simp[h.hl],ent:=fun j e x hj hx=>?_,apart:=fun j e x hj he hx=>?_,inj:=fun j k e e' x y hj he hk he' hx hy hxy=>?_}
 ·rw[zdn (fun e=>by subst e;rw[hap.1]at x;cases x)];exact h.hH _ _ x
 ·rw[zdn (fun e=>by subst e;rw[hap.2]at x;cases x)];exact h.hF _ _ x
 ·rcases get j e hj with⟨rfl,rfl⟩|⟨hne,hj'⟩
  ·rw[hb]at hx;cases hx;exact hok
  ·refine(h.ent j e x hj' hx).mono (zgm.refl _) (zcY.refl _) fun c es' cap' hxe hl=>?_;subst hxe;refine zdn fun e'=>?_;subst e';exact hne (h.inj j i e _ _ _ hj' hl hi h0 hx hb rfl)
 ·rcases get j e hj with⟨rfl,rfl⟩|⟨hne,hj'⟩
  ·exact h.apart j _ x hi h0 hx
  ·exact h.apart j e x hj' he hx
 ·have aux:∀(j:Nat)(e:Ent),(mem.set i (e1))[j]? =some e->e.live=true->∃q:Ent,mem[j]? =some q/\q.live=true:=by
   intro j e hj he;rcases get j e hj with⟨rfl,rfl⟩|⟨hne,hj'⟩
   ·exact⟨_,hi,h0⟩
   ·exact⟨_,hj',he⟩
  obtain⟨q0,hj0,he0⟩:=aux j e hj he;obtain⟨q1,hk0,he1⟩:=aux k e' hk he';exact h.inj j k q0 q1 x y hj0 he0 hk0 he1 hx hy hxy
end
theorem zpG{H:Hp}{Z:Bt}{k:List UInt8}:∀(es:List (AV×AV))(l:List MapEntry)(n:Nat)(r:Option AV),l.length=es.length->
 (∀(i:Nat) x v e,es[i]? =some (x,v)->l[i]? =some e->Rep H Z x e.key/\Rep H Z v e.val)->zkY k es=some r->
 (match r with|none=>Instr.findNow .string (.string ⟨k.toArray⟩) l n=some none|some v=>∃j x,Instr.findNow .string (.string ⟨k.toArray⟩) l n=some (some (j,x))/\Rep H Z v x)
 |[],l,n,r,hl,_,h=>by
  cases l with
  |nil=>simp only[zkY,Option.some.injEq]at h;subst h;rfl
  |cons e l=>simp at hl
 | (a,v):: es,l,n,r,hl,hr,h=>by
  cases l with
  |nil=>simp at hl
  |cons e l=>
   obtain⟨r1,r2⟩:=hr 0 a v e rfl rfl;cases a with
   |str k'=>
    obtain⟨e1,_⟩:=zcu r1;simp only[zkY]at h;have hs:Instr.sameNow .string (.string ⟨k.toArray⟩) e.key=some (decide (k'=k)):=by
     rw[e1];show some ((⟨k.toArray⟩:ByteArray)==⟨k'.toArray⟩)=_;congr 1;rw[Bool.eq_iff_iff,MapKept.bytes_beq,yhc];constructor
     ·intro h;have:=congrArg (fun b:ByteArray=>b.data.toList) h;simpa using this.symm
     ·rintro rfl;rfl
    by_cases hk:k'=k
    ·rw[if_pos hk]at h;cases h;refine⟨n,e.val,?_,r2⟩;simp only[Instr.findNow,hs,hk,decide_true]
    ·rw[if_neg hk]at h;have:=zpG es l (n+1) r (by simpa using hl) (fun i x v e hi he=>hr (i+1) x v e (by simpa using hi) (by simpa using he)) h;have e2:Instr.findNow .string (.string ⟨k.toArray⟩) (e:: l) n=Instr.findNow .string (.string ⟨k.toArray⟩) l (n+1):=by simp only[Instr.findNow,hs,hk,decide_false]
     rw[e2];exact this
   |_=>simp[zkY]at h
section
variable {P:Program}{H:Hp}{F:Fr}{Z:Bt}{N:Nat}{st:St}{a:Act}{w:World}{o:Oper}
theorem zre{t:TypeId}(h:zse P t=true):∃k e,P.underlying t=some (.map k e)/\P.underlying k=some .string/\∀w,(zeroValue e).run P w=.ok (.string ⟨#[]⟩) w:=by
 unfold zse at h;split at h
 ·rename_i k e hu;rw[yhb]at h;obtain⟨h1,h2⟩:=h;split at h1
  ·rename_i hk;refine⟨k,e,hu,hk,fun w=>?_⟩;split at h2
   ·rename_i z hz;have he:z=⟨#[]⟩:=by
     cases z with
     |mk d=>congr 1;simpa using h2
    subst he;cases hi:P.info? e with
    |none=>simp[hi]at hz
    |some i=>simp[hi]at hz;simp[zeroValue,typeInfo,hi,hz]
   ·cases h2
  ·cases h1
 ·cases h
theorem zk7{P:Program}{k:TypeId}{v:Value}{em:Bool}{n:Nat}(hk:P.underlying k=some .string)(w:World):(Instr.checkKey em (n+1) k v).run P w=.ok () w:=by simp[Instr.checkKey,underlying,hk]
theorem zzl{t:TypeId}(h:Rel H F Z N st a w)(ho:o.op=.makeMap t none):zcH P H F Z o a w (.mapr st.mem.length) (st.mem++[.mp []]):=by
 refine⟨.map (some w.heap.size),w.alloc (.map #[] 0),H,Z++[some (w.heap.size,0,0)],.inl (by simp[execOp,ho,Instr.makeMap]),.refl _ _,.append _ _,?_,?_⟩
 ·exact .mapr (es:=0) (capT:=0) (by rw[<-h.sat.hl];simp)
 ·exact h.sat.alloc_ent rfl ⟨#[],0,heap_alloc_new w _,rfl,fun i k v e hi=>by simp at hi⟩
theorem zuP{x y:Ar}{x' y':Operand}{t:TypeId}{i:Nat}{k:List UInt8}{es:List (AV×AV)}{r:Option AV}(h:Rel H F Z N st a w)(hx:zah x x'=true)(hy:zah y y'=true)(ht:zse P t=true)
 (ho:o.op=.lookup t x' y' true)(e1:ar st.env x=.mapr i)(e2:ar st.env y=.str k)(hi:st.mem[i]? =some (.mp es))(hg:zkY k es=some r):
 znR P H Z o a w (match r with|some v=>.tup [v,.bool true]|none=>.tup [.str [],.bool false]):=by
 have rx:=h.ar hx;rw[e1]at rx;have ry:=h.ar hy;rw[e2]at ry;obtain⟨ey,_⟩:=zcu ry;obtain⟨kt,et,u1,u2,u3⟩:=zre ht;generalize hxe:a.eval x'=xv at rx;cases rx with
 | @mapr _ _ b es' capT hβ=>
  obtain⟨ents,clock,g1,g2,g3⟩:=h.sat.ent i _ _ hi hβ;have hf:=zpG es ents.toList 0 r (by simpa using g2) (fun i x v e hi he=>g3 i x v e hi (by simpa using he)) hg;have hrun:∀(o':Option (Nat×Value)),Instr.findNow .string (.string ⟨k.toArray⟩) ents.toList 0=some o'->(Instr.findKey kt (.string ⟨k.toArray⟩) ents.toList).run P w=.ok o' w:=fun o' h=>by simp[Instr.findKey,underlying,u2,h]
  cases r with
  |none=>
   refine⟨.tuple #[.string ⟨#[]⟩,.bool false],?_,?_⟩
   ·simp[execOp,ho,hxe,ey,Instr.lookup,underlying,u1,MapKept.run_getObj_map g1,zk7 u2,hrun _ hf,u3]
   ·refine .tup rfl fun j c v hc hv=>?_;match j,hc,hv with
    |0,hc,hv=>cases hc;cases hv;exact .str (by simp[BIG])
    |1,hc,hv=>cases hc;cases hv;exact .bool
    |j+2,hc,_=>simp at hc
  |some v=>
   obtain⟨q,xv,hf1,hf2⟩:=hf;refine⟨.tuple #[xv,.bool true],?_,?_⟩
   ·simp[execOp,ho,hxe,ey,Instr.lookup,underlying,u1,MapKept.run_getObj_map g1,zk7 u2,hrun _ hf1]
   ·refine .tup rfl fun j c v hc hv=>?_;match j,hc,hv with
    |0,hc,hv=>cases hc;cases hv;exact hf2
    |1,hc,hv=>cases hc;cases hv;exact .bool
    |j+2,hc,_=>simp at hc
theorem zzm{m x y:Ar}{m' x' y':Operand}{t:TypeId}{i:Nat}{k s:List UInt8}{es:List (AV×AV)}(h:Rel H F Z N st a w)(hm:zah m m'=true)(hx:zah x x'=true)(hy:zah y y'=true)(ht:zse P t=true)
 (ho:o.op=.mapUpdate t m' x' y')(e0:ar st.env m=.mapr i)(e1:ar st.env x=.str k)(e2:ar st.env y=.str s)(hi:st.mem[i]? =some (.mp es))(hg:zkY k es=some none):
 zcH P H F Z o a w .junk (st.mem.set i (.mp (es++[(.str k,.str s)]))):=by
 have rm:=h.ar hm;rw[e0]at rm;have rx:=h.ar hx;rw[e1]at rx;have ry:=h.ar hy;rw[e2]at ry;obtain⟨ex,_⟩:=zcu rx;obtain⟨ey,_⟩:=zcu ry;obtain⟨kt,et,u1,u2,u3⟩:=zre ht;generalize hme:a.eval m'=mv at rm;cases rm with
 | @mapr _ _ b es' capT hβ=>
  obtain⟨ents,clock,g1,g2,g3⟩:=h.sat.ent i _ _ hi hβ;have hlt:=zaT g1;have hf:=zpG es ents.toList 0 none (by simpa using g2) (fun i x v e hi he=>g3 i x v e hi (by simpa using he)) hg;have hrun:(Instr.findKey kt (.string ⟨k.toArray⟩) ents.toList).run P w=.ok none w:=by simp[Instr.findKey,underlying,u2,hf]
  refine⟨undef,zlv w b (.map (ents.push ⟨.string ⟨k.toArray⟩,.string ⟨s.toArray⟩,clock⟩) (clock+1)),H,Z,.inr ⟨?_,rfl⟩,.refl _ _,.refl _,.junk,?_⟩
  ·simp[execOp,ho,hme,ex,ey,Instr.mapUpdate,underlying,u1,MapKept.run_getObj_map g1,zk7 u2,hrun,MapKept.run_setObj_map _ g1,Result.andThen,zlv]
  ·refine h.sat.rewrite_ent hi rfl rfl hβ ⟨_,_,zk8 hlt,by simp[g2],fun j k' v e hj he=>?_⟩;by_cases hlt':j<es.length
   ·rw[yge hlt']at hj;rw[Array.getElem?_push,if_neg (by omega)]at he;exact g3 j k' v e hj he
   ·have hj':=(yga.1 hj).1;simp at hj';have:j=es.length:=by omega
    subst this;rw[ygf (Nat.le_refl _)]at hj;simp at hj;rw[Array.getElem?_push,if_pos g2.symm]at he;cases he;rw[<-hj.1,<-hj.2];exact⟨ex ▸ rx,ey ▸ ry⟩
end
end Go.Fw
namespace Go.Fw
open Go
section
variable {P:Program}{H:Hp}{F:Fr}{Z:Bt}{N:Nat}{st:St}{a:Act}{w:World}{o:Oper}
theorem zzY{c:Call}{x y:Operand}(h:c.args.toList=[x,y]):c.args= #[x,y]:=by rw[<-Array.toArray_toList (xs:=c.args),h]
theorem zxJ{c:Call}{x y:TypeId}(h:c.argTypes.toList=[x,y]):c.argTypes= #[x,y]:=by rw[<-Array.toArray_toList (xs:=c.argTypes),h]
theorem zpz{pr:Bool}{mem m:List Ent}{es:Nat}{x:AV}{ys:List (List AV)}{p:Prop}{j e o n e1:Nat}{rows:List (List AV)}(h:zdJ pr mem es x ys=some (p,.ms j e o n,m))(hj:m[j]? =some (.arr e1 rows)):e=es/\o=0/\e1=es:=by
 unfold zdJ at h;split at h
 ·cases h;simp at hj;exact⟨rfl,rfl,hj.1.symm⟩
 ·split at h
  ·cases h;rw[ygf (by simp)]at hj;simp at hj;exact⟨rfl,rfl,hj.1.symm⟩
  ·cases h
 ·cases h
theorem zuK{x y:Ar}{c:Call}{x' y':Operand}{t u e:TypeId}{es:Nat}{ys:List (List AV)}{i:TypeInfo}{z:Value}{r:Ev}(h:Rel H F Z N st a w)(hx:zah x x'=true)(hy:zah y y'=true)
 (ho:o.op=.call c)(hb:c.callee=.builtin .append)(ha:c.args.toList=[x',y'])(hat:c.argTypes.toList=[t,u])(he:zbZ P t=some e)(hu:(zbZ P u).isSome=true)(hsz:szB P e=some es)
 (h0:0<es)(hi:P.info? e=some i)(hbytes:i.bytes<=128)(hz:i.zero=some z)(hzc:z.cells.size=es)
 (hrow:zbP st.mem es (ar st.env y)=some ys)(hev:zdJ true st.mem es (ar st.env x) ys=some r)(hs:r.1):zcH P H F Z o a w r.2.1 r.2.2:=by
 obtain⟨e',he'⟩:=Option.isSome_iff_exists.1 hu;obtain⟨news,n1,n2,n3,n4,n5,n6,n7⟩:=zqh (P:=P) h.sat h0 (h.ar hy) hrow;have hsz':i.size=es:=by unfold szB at hsz;simpa[hi]using hsz
 have hone:∀(i:Nat)(r:List AV)(j:Nat)(c:AV),ys[i]? =some r->r[j]? =some c->∃x,news[i*es+j]? =some x/\x.oneCell'=true/\Rep H Z c x:=by intro i r j c hi hj;obtain⟨x,g1,g2⟩:=n7 i r j c hi hj;exact⟨x,g1,(g2.one (n6 r (ygd hi) c (ygd hj))).1,g2⟩
 obtain⟨v,w',β',q1,q2,q3,q4⟩:=znV (ty:=o.type) h.sat h0 he (zaJ he') (.inr ⟨e',rfl⟩) hi hz hsz' hzc hbytes n2 n3 n1 n5 n6 hone (h.ar hx) (.inl rfl) hev hs;refine⟨v,w',H,β',.inl ?_,.refl _ _,q2,q3,q4⟩;simp[execOp,ho,resolve,hb,zzY ha,zxJ hat,invoke,builtin,q1]
theorem zwE{x y:Ar}{c:Call}{x' y':Operand}{t u e:TypeId}{s:List UInt8}{i:TypeInfo}{z:Value}{r:Ev}(h:Rel H F Z N st a w)(hx:zah x x'=true)(hy:zah y y'=true)
 (ho:o.op=.call c)(hb:c.callee=.builtin .append)(ha:c.args.toList=[x',y'])(hat:c.argTypes.toList=[t,u])(he:zbZ P t=some e)(hu:zh8 P u=true)(hsz:szB P e=some 1)
 (hi:P.info? e=some i)(hbytes:i.bytes<=128)(hz:i.zero=some z)(hzc:z.cells.size=1)
 (hstr:ar st.env y=.str s)(he5:e=T5)(hev:zdJ false st.mem 1 (ar st.env x) (s.map zpt)=some r)(hs:r.1):zcH P H F Z o a w r.2.1 r.2.2:=by
 have ry:=h.ar hy;rw[hstr]at ry;obtain⟨ey,_⟩:=zcu ry;have hsz':i.size=1:=by unfold szB at hsz;simpa[hi]using hsz
 have hbs:(ByteArray.mk s.toArray).size=s.length:=by simp[ByteArray.size]
 have hu8:IntKind.u8.min=0/\IntKind.u8.max=255:=by decide
 have hlen:∀w2:World,(Builtin.lenOf (a.eval y')).run P w2=.ok (s.map zpt).length w2:=by intro w2;simp[Builtin.lenOf,ey,hbs]
 have hnews:∀w2:World,w2.heap=w.heap->(Builtin.firstCells 1 (s.map zpt).length (a.eval y')).run P w2=.ok ((s.map fun b=>Value.int .u8 b.toNat):List Value).toArray w2:=by
  intro w2 _;have hex:(ByteArray.mk s.toArray).extract 0 s.length=⟨s.toArray⟩:=by apply ByteArray.ext;simp
  simp only[Builtin.firstCells,ey,List.length_map,hex,Sem.run_pure];simp
 have hone:∀(i:Nat)(r:List AV)(j:Nat)(c:AV),(s.map zpt)[i]? =some r->r[j]? =some c->∃x,((s.map fun b=>Value.int .u8 b.toNat):List Value)[i*1+j]? =some x/\x.oneCell'=true/\Rep H Z c x:=by
  intro i r j c hi hj;rw[List.getElem?_map,Option.map_eq_some_iff]at hi;obtain⟨b,hb,rfl⟩:=hi;cases j with
  |zero=>simp[zpt]at hj;subst hj;have:=b.toNat_lt;exact⟨.int .u8 b.toNat,by simp[hb],rfl,.int (by rw[hu8.1,hu8.2];omega)⟩
  |succ j=>simp[zpt]at hj
 obtain⟨v,w',β',q1,q2,q3,q4⟩:=znV (ty:=o.type) h.sat (by omega) he (zes hu) (.inl rfl) hi hz hsz' hzc hbytes hlen hnews (by simp)
  (by intro r hr;obtain⟨b,_,rfl⟩:=List.mem_map.1 hr;rfl) (by intro r hr c hc;obtain⟨b,_,rfl⟩:=List.mem_map.1 hr;simp[zpt]at hc;subst hc;rfl) hone (h.ar hx) (.inr he5) hev hs
 refine⟨v,w',H,β',.inl ?_,.refl _ _,q2,q3,q4⟩;simp[execOp,ho,resolve,hb,zzY ha,zxJ hat,invoke,builtin,q1]
theorem Sat.more{mem:List Ent}{w':World}(h:Sat H F Z mem w)(hw:∀b,b<w.heap.size->w'.heap[b]? =w.heap[b]?)(hs:w.heap.size<=w'.heap.size)(ho:w'.os=w.os/\w'.tape=w.tape/\w'.output=w.output):Sat H F Z mem w':=
 {hH:=fun b o x=>by rw[hw b (zaT (h.hH _ _ x))];exact h.hH b o x
  gh:=h.gh
  hF:=fun b o x=>by rw[hw b (zaT (h.hF _ _ x))];exact h.hF b o x
  sm:=⟨ho.1.trans h.sm.os,ho.2.1.trans h.sm.tape,ho.2.2.trans h.sm.output,Nat.le_trans h.sm.size hs⟩
  hl:=h.hl
  ent:=fun i e x hi hx=>(h.ent i e x hi hx).mono (zgm.refl _) (zcY.refl _) fun b es cap hxe hl=>by subst hxe;exact hw b ((h.ent i e _ hi hx).lt hl)
  apart:=h.apart
  inj:=h.inj}
theorem zlW:∀(ns:List Int)(acc:List UInt8),ns.foldl (fun r n=>r.push (UInt8.ofNat n.toNat)) (ByteArray.mk acc.toArray)=⟨(acc++ns.map fun n=>UInt8.ofNat n.toNat).toArray⟩
|[],acc=>by simp
|n:: ns,acc=>by
 have:(ByteArray.mk acc.toArray).push (UInt8.ofNat n.toNat)=⟨(acc++[UInt8.ofNat n.toNat]).toArray⟩:=by apply ByteArray.ext;simp
 rw[List.foldl_cons,this,zlW ns];simp
theorem zzp{x:Ar}{y:Operand}{s d e:TypeId}{t:List UInt8}(h:Rel H F Z N st a w)(hc:zah x y=true)(ho:o.op=.convert s d y)(hs:zh8 P s=true)(hd:zbZ P d=some e)
 (he:zh7 P e .u8=true)(hx:ar st.env x=.str t):zcH P H F Z o a w (.sl 1 (t.map zpt)) st.mem:=by
 have ry:=h.ar hc;rw[hx]at ry;obtain⟨ey,hbig⟩:=zcu ry;have hne:=h.sat.none_at_size;have hrun:=Lib.run_convert_string_bytes w s d e ⟨t.toArray⟩ (zes hs) (zaJ hd) (zld he);have hsz:(ByteArray.mk t.toArray).size=t.length:=by simp[ByteArray.size]
 rw[hsz]at hrun;have hcell:∀(j:Nat)(hj:j<t.length),(Lib.bytesCells w e ⟨t.toArray⟩)[j]? =some (.int .u8 t[j].toNat):=fun j hj=>by unfold Lib.bytesCells;rw[Array.getElem?_append_left (by simpa using hj)];simp[hj]
 have hcap:t.length<=grownCap w t.length 0 e:=grownCap_ge _ _ _ _;have hnew:=Lib.bytesWorld_at_new w e ⟨t.toArray⟩;have hsat:=(h.sat.alloc_pub (.cells (Lib.bytesCells w e ⟨t.toArray⟩) e ((Lib.bytesCells w e ⟨t.toArray⟩).size,(Lib.bytesCells w e ⟨t.toArray⟩).size+1))).more (w':=Lib.bytesWorld w e ⟨t.toArray⟩) (fun b hb=>by
  have hb':b<w.heap.size+1:=by simpa[World.alloc,-World.alloc_eq]using hb
  by_cases hbw:b<w.heap.size
  ·rw[heap_alloc_old w _ b hbw];exact Lib.bytesWorld_at_old w e _ b hbw
  ·obtain rfl:b=w.heap.size:=by omega
   rw[heap_alloc_new];exact hnew) (by rw[Lib.bytesWorld_size];simp[World.alloc,-World.alloc_eq]) ⟨rfl,rfl,rfl⟩
 refine⟨.slice (some ⟨w.heap.size,0,none⟩) t.length (grownCap w t.length 0 e),Lib.bytesWorld w e ⟨t.toArray⟩,_,Z,.inl ?_,ziw hne,.refl _,?_,hsat⟩
 ·simp[execOp,ho,ey,hrun]
 ·have hu8:IntKind.u8.min=0/\IntKind.u8.max=255:=by decide
  refine .sl w.heap.size 0 (Lib.bytesCells w e ⟨t.toArray⟩) (fun i _=>.int .u8 (t.getD i 0).toNat) (by simp) (by simpa using hcap) hbig (fun r hr=>?_) (fun _=>⟨rfl,e,_,by unfold zgb;rw[if_pos rfl]⟩) (fun i j hi hj=>?_) (fun r hr c hc=>?_) (fun i r j c hi hj=>?_)
  ·obtain⟨b,_,rfl⟩:=List.mem_map.1 hr;rfl
  ·have hi':i<t.length:=by simpa using hi
   obtain rfl:j=0:=by omega
   simpa[hi']using hcell i hi'
  ·obtain⟨b,_,rfl⟩:=List.mem_map.1 hr;simp[zpt]at hc;subst hc;rfl
  ·rw[List.getElem?_map,Option.map_eq_some_iff]at hi;obtain⟨b,hb,rfl⟩:=hi;cases j with
   |zero=>simp[zpt]at hj;subst hj;have:=b.toNat_lt;rw[show t.getD i 0=b by simp[hb]];exact .int (by rw[hu8.1,hu8.2];omega)
   |succ j=>simp[zpt]at hj
theorem zzf{x:Ar}{y:Operand}{s d e:TypeId}{rows:List (List AV)}(h:Rel H F Z N st a w)(hc:zah x y=true)(ho:o.op=.convert s d y)(hd:zh8 P d=true)(hs:zbZ P s=some e)
 (he:zh7 P e .u8=true)(hrow:zbP st.mem 1 (ar st.env x)=some rows)(hB:rows.all isB=true)(hbig:rows.length<=BIG):zcH P H F Z o a w (.str (rows.map znY)) st.mem:=by
 obtain⟨news,n1,n2,n3,⟨b,l,cp,n4⟩,n5,n6,n7⟩:=zqh (P:=P) h.sat (by omega) (h.ar hc) hrow;have hconv:(execOp a.eval o).run P w=((Conv.bytesToString (a.eval y)).run P w).andThen fun v w'=>.ok (.value v) w':=by rw[n4];simp[execOp,ho,n4,convert,run_underlying (zaJ hs),run_underlying (zes hd),run_underlying (zld he)]
 have hl:l=rows.length:=by have:=n2 w;rw[n4]at this;simp[Builtin.lenOf]at this;exact this
 have hnews:news=(rows.map fun r=>match r with|[.int .u8 n]=>n|_=>0).map (Value.int .u8):=by
  apply List.ext_getElem?;intro k;by_cases hk:k<rows.length
  ·have hb:=List.all_eq_true.1 hB rows[k] (ygh hk);have hrk:rows[k]? =some rows[k]:=ygb hk;generalize rows[k]=row at hb hrk;unfold isB at hb;split at hb
   ·rename_i n;obtain⟨v,g1,g2⟩:=n7 k _ 0 _ hrk rfl;have hv:=(zct g2).1;subst hv;simp only[Nat.mul_one,Nat.add_zero]at g1;rw[g1];simp[hrk]
   ·cases hb
  ·rw[List.getElem?_eq_none (by omega),List.getElem?_eq_none (by simp;omega)]
 have hbytes:((rows.map fun r=>match r with|[.int .u8 n]=>n|_=>0).map fun n:Int=>UInt8.ofNat n.toNat)=rows.map znY:=by
  rw[List.map_map];apply List.map_congr_left;intro r hr;have hb:=List.all_eq_true.1 hB r hr;unfold isB at hb;split at hb
  ·simp[znY]
  ·cases hb
 refine .same (x:=.string ⟨(rows.map znY).toArray⟩) h ?_ (.str (by simpa using hbig));rw[hconv,n4];cases b with
 |none=>
  have h1:=n3 w rfl;rw[n4]at h1;simp[Builtin.firstCells]at h1;have:rows=[]:=by
   have:news.length=0:=by rw[h1];rfl
   rw[n1]at this;exact List.length_eq_zero_iff.1 (by omega)
  subst this;simp[Conv.bytesToString];rfl
 |some b=>have h1:=n3 w rfl;rw[n4]at h1;simp only[Builtin.firstCells,Nat.mul_one]at h1;rw[hnews]at h1;have:=run_bytesToString (P:=P) w b rows.length cp _ h1;rw[hl,this];have hf:=zlW (rows.map fun r=>match r with|[.int .u8 n]=>n|_=>0) [];rw[hbytes]at hf;simp only[Result.andThen_ok];congr 3
theorem zzi{x:Ar}{y:Operand}{i:Nat}{vs:List AV}{v:AV}(h:Rel H F Z N st a w)(hc:zah x y=true)(ho:o.op=.extract y i)(hx:ar st.env x=.tup vs)(hv:vs[i]? =some v):
 zcH P H F Z o a w v st.mem:=by
 have r:=h.ar hc;rw[hx]at r;generalize he:a.eval y=av at r;cases r with
 | @tup _ _ xs hl hrep=>
  have hlt:i<xs.size:=by have:=(yga.1 hv).1;omega
  refine .same (x:=xs[i]) h ?_ (hrep i v _ hv (Array.getElem?_eq_getElem hlt));simp[execOp,ho,he,Instr.extract,hlt]
theorem zlZ:∀(xs:List Ar)(ys:List Operand),zgy xs ys=true->ys.length=xs.length/\∀(k:Nat) x y,xs[k]? =some x->ys[k]? =some y->zah x y=true
|[],[],_=>⟨rfl,by simp⟩
|[],_:: _,h=>by simp[zgy]at h
|_:: _,[],h=>by simp[zgy]at h
|x:: r,y:: r',h=>by
 simp only[zgy,yhb]at h;obtain⟨h4,h5⟩:=zlZ r r' h.2;refine⟨by simp[h4],fun k p q hp hq=>?_⟩;cases k with
 |zero=>simp at hp hq;subst hp;subst hq;exact h.1
 |succ k=>exact h5 k p q (by simpa using hp) (by simpa using hq)
theorem zp9{xs:List Ar}{ys:List Operand}(h:Rel H F Z N st a w)(hc:zgy xs ys=true):
 ys.length=xs.length/\∀(k:Nat) v y,(xs.map (ar st.env))[k]? =some v->(ys.map a.eval)[k]? =some y->Rep H Z v y:=by
 obtain⟨h1,h2⟩:=zlZ _ _ hc;refine⟨h1,fun k v y hv hy=>?_⟩;rw[List.getElem?_map,Option.map_eq_some_iff]at hv hy;obtain⟨x,hx,rfl⟩:=hv;obtain⟨z,hz,rfl⟩:=hy;exact h.ar (h2 k x z hx hz)
theorem zwL{f:FuncId}{xs:List Ar}{fst cs:Array Operand}(h:Rel H F Z N st a w)(hc:zgy xs (fst++cs).toList=true)(hf:(match Nat.blt f BB with|true=>fst.size==0|false=>cs.size==0&&!(Nat.beq f ERR))=true)(ho:o.op=.makeFunc (.func (fnum f)) fst cs):
 zcH P H F Z o a w (.fn f (xs.map (ar st.env))) st.mem:=by
 obtain⟨h1,h2⟩:=zp9 h hc;refine .same (x:=.func (.func (fnum f)) (fst.map a.eval) (cs.map a.eval)) h ?_ (.fn ?_ ?_ fun k v y hv hy=>h2 k v y hv (by rw[Array.toList_append,List.map_append];rw[<-Array.getElem?_toList]at hy;simpa using hy))
 ·simp[execOp,ho,Instr.makeFunc]
 ·unfold fnb;cases hb:Nat.blt f BB<;>rw[hb]at hf<;>simp only at hf|-
  ·rw[yhb,yho]at hf;rw[Array.eq_empty_of_size_eq_zero (xs:=cs) (by simpa using hf.1)];simp[hf.2]
  ·rw[Array.eq_empty_of_size_eq_zero (xs:=fst) (by simpa using hf)];simp
 ·simp at h1|-;exact h1
theorem zzk{x:Ar}{l c:Operand}{t e:TypeId}{es:Nat}{zs:List AV}{k:IntKind}{n:Int}{i:TypeInfo}(h:Rel H F Z N st a w)(hl:zah x l=true)(hc:zah x c=true)(ho:o.op=.makeSlice t l c)
 (he:zbZ P t=some e)(hsz:szB P e=some es)(h0:0<es)(hz:zex P e zs=true)(hzl:zs.length=es)(hi:P.info? e=some i)(hbytes:i.bytes<=128)(hx:ar st.env x=.int k n)(hn:0<=n/\n<=LIM)(hnp:(np1 zs ||hd1 AV.na zs&&e==T5)=true):
 zcH P H F Z o a w (.ms st.mem.length es 0 n.toNat) (st.mem++[.arr es (List.replicate n.toNat zs)]):=by
 obtain⟨i',z,hi',hzz,hco⟩:=znM hz;rw[hi]at hi';cases hi';obtain⟨z1,z2,z3⟩:=zbE H Z zs z.cells.toList hco;have r1:=h.ar hl;rw[hx]at r1;have e1:=(zct r1).1;have r2:=h.ar hc;rw[hx]at r2;have e2:=(zct r2).1;have hsz':i.size=es:=by unfold szB at hsz;simpa[hi]using hsz
 obtain⟨h1,h2⟩:=hn;have hlim:n<=1099511627776:=h2;have hw:IntKind.i64.wrap n=n:=IntWalk.i64_in n (by omega);have hb:(i.bytes:Int)*n<=281474976710656:=by have:(i.bytes:Int)*n<=128*n:=Int.mul_le_mul_of_nonneg_right (by omega) h1;omega
 have hzs:z.cells.size=es:=by simpa[hzl]using z1.symm
 have hcells:∀q,q<n.toNat*es->((Array.range (n.toNat*es)).map fun q=>z.cells[q % z.cells.size]!)[q]? =some (z.cells[q % es]!):=by intro q hq;simp[hq,hzs]
 refine⟨.slice (some ⟨w.heap.size,0,none⟩) n.toNat n.toNat,w.alloc (.cells ((Array.range (n.toNat*es)).map fun q=>z.cells[q % z.cells.size]!) e),H,Z++[some (w.heap.size,es,n.toNat)],.inl ?_,.refl _ _,.append _ _,?_,?_⟩
 ·by_cases hn0:n=0
  ·subst hn0;have hr0:∀f:Nat->Value,(Array.range 0).map f= #[]:=fun f=>by apply Array.eq_empty_of_size_eq_zero;simp
   have hw0:IntKind.i64.wrap 0=0:=hw;simp[execOp,ho,e1,e2,Instr.makeSlice,run_underlying (zaJ he),asInt,asIntOf,typeInfo,hi,hw0,newRow,sizeOf,hr0]
  ·have hne:n.toNat*es≠0:=Nat.mul_ne_zero (by omega) (by omega);have hlt:¬n<0:=by omega
   have hb':¬(281474976710656<(i.bytes:Int)*n):=by omega
   simp[execOp,ho,e1,e2,Instr.makeSlice,run_underlying (zaJ he),asInt,asIntOf,typeInfo,hi,hw,newRow,sizeOf,hlt,hb',hsz',hne,zeroValue,hzz]
 ·have:Rep H (Z++[some (w.heap.size,es,n.toNat)]) (.ms st.mem.length es 0 n.toNat) (.slice (some ⟨w.heap.size,0*es,none⟩) n.toNat n.toNat):=
   .ms (b:=w.heap.size) (capT:=n.toNat) (by rw[<-h.sat.hl];simp) (by omega) (Nat.le_refl _) (by unfold BIG;omega)
  simpa using this
 ·have hall:∀(q:Nat)(r:List AV)(j:Nat)(c:AV),(List.replicate n.toNat zs)[q]? =some r->r[j]? =some c->∃v,((Array.range (n.toNat*es)).map fun q=>z.cells[q % z.cells.size]!)[q*es+j]? =some v/\Rep H Z c v:=?_;refine h.sat.alloc_own (by simp) (by simp) ?_ ?_ hall fun _=>?_
  ·intro r hr;rw[(List.mem_replicate.1 hr).2];exact hzl
  ·intro r hr;rw[(List.mem_replicate.1 hr).2];exact z2
  ·have key:∀{p:AV->Bool},hd1 p zs=true->∀v,((Array.range (n.toNat*es)).map fun q=>z.cells[q % z.cells.size]!)[0]? =some v->∃c,p c=true/\Rep H Z c v:=fun hp=>by
    refine zyg (rows:=List.replicate n.toNat zs) ?_ (fun r hr=>?_) (fun e=>?_) (fun r c hr hc=>by simpa using hall 0 r 0 c hr hc)
    ·cases n.toNat with
     |zero=>rfl
     |succ k=>exact hp
    ·have hr:=(List.mem_replicate.1 (List.mem_of_mem_head? (by rw[hr];rfl))).2;subst hr;intro e;rw[e]at hzl;simp at hzl;omega
    ·have:n.toNat=0:=by simpa using congrArg List.length e
     rw[this];simp
   rw[Bool.or_eq_true,yhb]at hnp;rcases hnp with hnp|⟨h1,h2⟩
   ·exact zoQ (key hnp)
   ·exact zxv (by simpa using h2) (key h1)
  ·intro q r j c hq hj;have hq':=(yga.1 hq).1;have hr:=(List.mem_replicate.1 (ygd hq)).2;subst hr;have hjl:=(yga.1 hj).1;simp at hq';have hlt:q*es+j<n.toNat*es:=by have:(q+1)*es<=n.toNat*es:=Nat.mul_le_mul_right _ (by omega);rw[Nat.add_mul]at this;omega
   have e3:(q*es+j) % es=j:=by rw[Nat.mul_comm,Nat.mul_add_mod,Nat.mod_eq_of_lt (by omega)]
   have hjz:j<z.cells.size:=by omega
   refine⟨z.cells[j],?_,z3 j c _ hj (by simp[hjz])⟩;rw[hcells _ hlt,e3];simp[hjz]
theorem ztr{k:K}{r:Ev}(h:Rel H F Z N st a w)(hc:zsQ P k o.op=true)(he:evK k st.env st.mem=some r)(hs:r.1):zcH P H F Z o a w r.2.1 r.2.2:=by
 generalize hop:o.op=op at hc;unfold zsQ at hc;split at hc
 ·
  simp only[evK,Option.some.injEq]at he;subst he;exact zxF h hc (.inl hop)
 ·
  simp only[evK,Option.some.injEq]at he;subst he;exact zzl h hop
 ·
  simp only[yhb]at hc;obtain⟨⟨c1,c2⟩,c3⟩:=hc;simp only[evK]at he;split at he
  ·rename_i i k e1 e2;split at he
   ·rename_i es hi;split at he
    ·rename_i v hg;cases he;exact(zuP h c1 c2 c3 hop e1 e2 hi hg).good h
    ·rename_i hg;cases he;exact(zuP h c1 c2 c3 hop e1 e2 hi hg).good h
    ·cases he
   ·cases he
  ·cases he
 ·
  simp only[yhb]at hc;obtain⟨⟨⟨c0,c1⟩,c2⟩,c3⟩:=hc;simp only[evK]at he;split at he
  ·rename_i i k s e0 e1 e2;split at he
   ·rename_i es hi;split at he
    ·rename_i hg;cases he;exact zzm h c0 c1 c2 c3 hop e0 e1 e2 hi hg
    ·cases he
   ·cases he
  ·cases he
 ·simp only[evK,Option.some.injEq]at he;subst he;exact zxF h hc (.inr hop)
 ·
  simp only[yhb]at hc;obtain⟨⟨c1,c2⟩,c3⟩:=hc;simp only[evK]at he;split at he
  ·rename_i t ht;split at he
   ·rename_i p v hp;cases he;exact zwM h c1 c2 c3 hop ht hp hs
   ·cases he
  ·cases he
 ·
  simp only[yhb,yhe]at hc;simp only[evK,Option.some.injEq]at he;subst he;exact zwF h hc.1 hop hs
 ·simp only[yhb,yhe]at hc;simp only[evK,Option.some.injEq]at he;subst he;exact zwG h hc.1 hop hs
 ·rw[yhb]at hc;obtain⟨hc,hb⟩:=hc;simp only[yhb,yhe]at hc;simp only[evK,Option.some.injEq]at he;subst he;exact zuJ h hc.1 hop hb
 ·simp only[yhb]at hc;obtain⟨⟨c1,c2⟩,c3⟩:=hc;simp only[evK,Option.some.injEq]at he;subst he;exact zuM h c1 c2 c3 hop hs
 ·
  simp only[yhb]at hc;obtain⟨⟨c1,c2⟩,c3⟩:=hc;simp only[evK,Option.some.injEq]at he;subst he;exact zso h c1 c2 c3 hop hs.1 hs.2
 ·
  simp only[yhb,yhe,yhc]at hc;obtain⟨⟨⟨⟨c1,c2⟩,c3⟩,c4⟩,c5⟩:=hc;split at c1
  ·rename_i e hee;simp only[yhb,yhe]at c1;simp only[evK,Option.some.injEq]at he;subst he;exact zzh h hee c1.1 c1.2 c2 c3 c4 c5 hop hs
  ·cases c1
 ·simp only[yhb,yhe,yhc]at hc;obtain⟨⟨⟨⟨c1,c2⟩,c3⟩,c4⟩,c5⟩:=hc;split at c1
  ·rename_i e hee;simp only[yhb,yhe]at c1;simp only[evK,Option.some.injEq]at he;subst he;exact zwI h hee c1.1 c1.2 c2 c3 c4 c5 hop hs.1 hs.2
  ·cases c1
 ·
  simp only[yhb,yhe]at hc;obtain⟨⟨c1,rfl⟩,c3⟩:=hc;split at c1
  ·rename_i e hee;obtain⟨es,hes⟩:=Option.isSome_iff_exists.1 c1;simp only[evK,Option.some.injEq]at he;subst he;exact zwH h hee hes c3 hop
  ·cases c1
 ·
  simp only[yhb,yhe]at hc;simp only[evK]at he;split at he
  ·rename_i cs hx;cases cs with
   |nil=>simp at he
   |cons c cs=>simp only[List.head?_cons,Option.some.injEq]at he;cases he;exact(zfb h hc.1 hop hc.2 hx).good h
  ·rename_i i q off hx;split at he
   ·rename_i es rows hi;split at he
    ·rename_i row hr;split at he
     ·rename_i c hj;cases he;exact(zfc h hc.1 hop hc.2 hx hi hr hj).good h
     ·cases he
    ·cases he
   ·cases he
  ·cases he
 ·
  simp only[yhb,yhe]at hc;obtain⟨⟨c1,c2⟩,c3⟩:=hc;simp only[evK]at he;split at he
  ·rename_i cs hx;cases he;exact(zfd h c1 hop c2 c3 hx hs).good h
  ·rename_i i q off hx;split at he
   ·rename_i es rows hi;split at he
    ·rename_i row hr;cases he;exact(zfe h c1 hop c2 c3 hx hi hr hs).good h
    ·cases he
   ·cases he
  ·cases he
 ·
  simp only[yhb,yhe]at hc;obtain⟨⟨c1,c2⟩,c3⟩:=hc;simp only[evK]at he;split at he
  ·rename_i i q off hx;split at he
   ·rename_i es rows hi;split at he
    ·rename_i row hr;cases he;exact zuR h c1 c2 hop c3 hx hi hr hs
    ·cases he
   ·cases he
  ·cases he
 ·
  simp only[evK]at he;split at he
  ·rename_i cs hx;cases he;have:=zrw (P:=P) h hc hop (.inl ⟨cs,hx⟩);rw[hx]at this;exact this
  ·rename_i i q f hx;cases he;have:=zrw (P:=P) h hc hop (.inr ⟨i,q,f,hx⟩);rw[hx]at this;exact this
  ·cases he
 ·
  simp only[yhb,yhe]at hc;obtain⟨⟨rfl,c2⟩,c3⟩:=hc;simp only[evK]at he;split at he
  ·rename_i p v hb;cases he;exact zzg h c2 c3 hop hb hs
  ·cases he
 ·
  simp only[yhb,yhe]at hc;obtain⟨⟨⟨rfl,c2⟩,c3⟩,c4⟩:=hc;simp only[evK]at he;split at he
  ·rename_i cs ds h1 h2;split at he
   ·rename_i b hb;cases he;exact(zuN h c2 c3 c4 hop h1 h2 hb).1 rfl
   ·cases he
  ·rename_i cs ds h1 h2;split at he
   ·rename_i b hb;cases he;exact(zuN h c2 c3 c4 hop h1 h2 hb).2 rfl
   ·cases he
  ·cases he
 ·
  simp only[yhb,yhe]at hc;obtain⟨⟨⟨rfl,c2⟩,c3⟩,c4⟩:=hc;simp only[evK]at he;split at he
  ·rename_i u v h1 h2;cases he;exact(zuL h c2 c3 c4 hop h1 h2).1 rfl
  ·rename_i u v h1 h2;cases he;exact(zuL h c2 c3 c4 hop h1 h2).2 rfl
  ·cases he
 ·
  simp only[yhb]at hc;simp only[evK]at he;split at he
  ·rename_i h1;cases he;exact zuO h hc.1 hc.2 hop h1 hs
  ·cases he
 ·
  simp only[yhb]at hc;simp only[evK]at he;split at he
  ·rename_i h1;cases he;exact zuO h hc.1 hc.2 hop h1 hs
  ·cases he
 ·
  simp only[evK]at he;split at he
  ·rename_i b hx;cases he;exact zzo h hc hop hx
  ·cases he
 ·
  simp only[evK]at he;split at he
  ·rename_i k n hx;cases he;exact zzn h hc hop hx hs
  ·cases he
 ·
  simp only[yhb]at hc;simp only[evK]at he;split at he
  ·rename_i k n hx;cases he;exact zwJ h hc.1.1 hop hc.1.2 (Option.isSome_iff_exists.1 hc.2) hx
  ·cases he
 ·
  simp only[yhb]at hc;obtain⟨⟨c1,c2⟩,c3⟩:=hc;split at c3
  ·rename_i e hee;simp only[evK]at he;split at he
   ·rename_i rows hr;cases he;exact zzf h c1 hop c2 hee c3 hr hs.1 hs.2
   ·cases he
  ·cases c3
 ·
  simp only[yhb]at hc;obtain⟨⟨c1,c2⟩,c3⟩:=hc;split at c3
  ·rename_i e hee;simp only[evK]at he;split at he
   ·rename_i s hr;cases he;exact zzp h c1 hop c2 hee c3 hr
   ·cases he
  ·cases c3
 ·
  simp only[yhb]at hc;obtain⟨⟨⟨c1,c2⟩,c3⟩,c4⟩:=hc;simp only[evK]at he;split at he
  ·rename_i s hx;split at he
   ·rename_i l u hl hu;cases he;exact zzq h c1 c2 c3 hop c4 hl hx hu hs
   ·cases he
  ·cases he
 ·
  simp only[yhb]at hc;obtain⟨⟨⟨c1,c2⟩,c3⟩,c4⟩:=hc;split at c4
  ·rename_i e hee;have c4':=yhe.1 c4;simp only[evK]at he;split at he
   ·rename_i es rows hx;split at he
    ·rename_i l u hl hu;cases he;exact(zqf (u:=u) h c1 c2 c3 hop hee c4' hl).1 _ _ hs.1 hx hu hs.2
    ·cases he
   ·rename_i i es off len hx;split at he
    ·rename_i l u hl hu;cases he;exact(zqf (u:=u) h c1 c2 c3 hop hee c4' hl).2.1 _ _ _ _ hs.1 hx hu hs.2
    ·cases he
   ·rename_i hx;split at he
    ·rename_i l u hl hu;cases he;exact(zqf (u:=u) h c1 c2 c3 hop hee c4' hl).2.2 hx hu hs
    ·cases he
   ·cases he
  ·cases c4
 ·
  simp only[yhb]at hc;obtain⟨c1,c2⟩:=hc;split at c2
  ·rename_i off' t' hf;simp only[yhb,yhe]at c2;obtain⟨rfl,c3⟩:=c2;split at c3
   ·rename_i n hn;have c3':=of_decide_eq_true c3;simp only[evK]at he;split at he
    ·rename_i cs hx;cases he;exact(zxD h c1 hop hf hn c3').1 cs hx hs
    ·rename_i i q f' hx;cases he;exact(zxD h c1 hop hf hn c3').2 i q f' hx
    ·cases he
   ·cases c3
  ·cases c2
 ·
  simp only[yhb]at hc;obtain⟨c1,c2⟩:=hc;split at c2
  ·rename_i off' t' hf;simp only[yhb,yhe]at c2;obtain⟨rfl,c3⟩:=c2;simp only[evK]at he;split at he
   ·rename_i cs hx;split at he
    ·rename_i c hj;cases he;exact zlI h c1 hop hf c3 hx hj
    ·cases he
   ·cases he
  ·cases c2
 ·
  simp only[yhb]at hc;obtain⟨c1,c2⟩:=hc;split at c2
  ·rename_i off' t' hf;simp only[yhb,yhe]at c2;obtain⟨⟨rfl,c3⟩,c4⟩:=c2;simp only[evK]at he;split at he
   ·rename_i cs hx;cases he;exact zlJ h c1 hop hf c3 c4 hx hs
   ·cases he
  ·cases c2
 ·
  simp only[yhb]at hc;obtain⟨⟨c1,c2⟩,c3⟩:=hc;split at c3
  ·rename_i e hee;have c3':=yhe.1 c3;simp only[evK]at he;split at he
   ·rename_i es' rows k n hx hn;cases he;exact(zxE h c1 c2 hop hee c3').1 _ _ _ _ hx hn hs
   ·rename_i m es' off len k n hx hn;cases he;exact(zxE h c1 c2 hop hee c3').2 _ _ _ _ _ _ hx hn hs
   ·cases he
  ·cases c3
 ·
  simp only[yhb]at hc;obtain⟨⟨c1,c2⟩,c3⟩:=hc;simp only[evK]at he;split at he
  ·rename_i s k n hx hn;cases he;exact zzj h c1 c2 hop c3 hx hn hs.1 hs.2
  ·cases he
 ·
  split at hc
  ·rename_i y t ha hat;simp only[yhb]at hc;simp only[evK]at he;split at he
   ·rename_i s hx;cases he;exact zwK h hc.1 hop rfl ha hat hc.2 hx
   ·cases he
  ·cases hc
 ·
  split at hc
  ·rename_i y t ha hat;simp only[yhb]at hc;obtain⟨e,hee⟩:=Option.isSome_iff_exists.1 hc.2;simp only[evK]at he;split at he
   ·rename_i es rows hx;cases he;exact(znr h hc.1 hop rfl ha hat hee).1 _ _ hx
   ·rename_i i es off len hx;cases he;exact(znr h hc.1 hop rfl ha hat hee).2.1 _ _ _ _ hx
   ·rename_i hx;cases he;exact(znr h hc.1 hop rfl ha hat hee).2.2 hx
   ·cases he
  ·cases hc
 ·
  split at hc
  ·rename_i x' y' t u ha hat;simp only[yhb]at hc;obtain⟨⟨⟨c1,c2⟩,c3⟩,c4⟩:=hc;split at c4
   ·rename_i e hee;simp only[yhb,yhe,yhc]at c4;obtain⟨⟨d1,d2⟩,d3⟩:=c4;split at d3
    ·rename_i i hi;simp only[yhb,yhc]at d3;obtain⟨f1,f2⟩:=d3;split at f2
     ·rename_i z hz;have f2':=yhe.1 f2;simp only[evK]at he;split at he
      ·rename_i ys hy;exact zuK h c1 c2 hop rfl ha hat hee c3 d1 d2 hi f1 hz f2' hy he hs
      ·cases he
     ·cases f2
    ·cases d3
   ·cases c4
  ·cases hc
 ·
  split at hc
  ·rename_i x' y' t u ha hat;simp only[yhb]at hc;obtain⟨⟨⟨c1,c2⟩,c3⟩,c4⟩:=hc;split at c4
   ·rename_i e hee;simp only[yhb,yhe,yhc]at c4;obtain⟨⟨d1,d2⟩,d3⟩:=c4;split at d3
    ·rename_i i hi;simp only[yhb,yhc]at d3;obtain⟨f1,f2⟩:=d3;split at f2
     ·rename_i z hz;have f2':=yhe.1 f2;simp only[evK]at he;split at he
      ·rename_i ys hy;unfold zpy at he;split at he
       ·rename_i p0 j0 e0 o0 n0 m0 hev;split at he
        ·rename_i e1 rows hj;simp only[Option.some.injEq]at he;subst he;obtain⟨s1,s2,s3⟩:=hs;have hs3:∀r∈rows,∀c∈r,c.pure=true:=fun r hr c hc=>List.all_eq_true.1 (List.all_eq_true.1 s3 r hr) c hc;have hg:=zuK h c1 c2 hop rfl ha hat hee c3 d1 d2 hi f1 hz f2' hy hev s1;have hshape:=zpz hev hj;obtain⟨rfl,rfl,rfl⟩:=hshape;subst s2;exact hg.fz hj hs3
        ·cases he
       ·cases he
      ·cases he
     ·cases f2
    ·cases d3
   ·cases c4
  ·cases hc
 ·
  split at hc
  ·rename_i x' y' t u ha hat;simp only[yhb]at hc;obtain⟨⟨⟨c1,c2⟩,c3⟩,c4⟩:=hc;split at c4
   ·rename_i e hee;simp only[yhb,yhe]at c4;obtain⟨⟨⟨d1,d5⟩,d2⟩,d3⟩:=c4;split at d3
    ·rename_i i hi;simp only[yhb,yhc]at d3;obtain⟨f1,f2⟩:=d3;split at f2
     ·rename_i z hz;have f2':=yhe.1 f2;simp only[evK]at he;split at he
      ·rename_i s hy;exact zwE h c1 c2 hop rfl ha hat hee c3 d2 hi f1 hz f2' hy d5 he hs
      ·cases he
     ·cases f2
    ·cases d3
   ·cases c4
  ·cases hc
 ·
  simp only[yhb,yhe]at hc;obtain⟨c1,rfl⟩:=hc;simp only[evK]at he;split at he
  ·rename_i vs hx;split at he
   ·rename_i v hv;cases he;exact zzi h c1 hop hx hv
   ·cases he
  ·cases he
 ·
  simp only[yhb,yhe]at hc;obtain⟨⟨c2,rfl⟩,c3⟩:=hc;simp only[evK,Option.some.injEq]at he;subst he;exact zwL h c3 c2 hop
 ·
  simp only[yhb]at hc;obtain⟨⟨c1,c2⟩,c3⟩:=hc;split at c3
  ·rename_i e hee;simp only[yhb,yhe,yhc]at c3;obtain⟨⟨⟨⟨⟨d1,d2⟩,d3⟩,d6⟩,d4⟩,d5⟩:=c3;split at d5
   ·rename_i i hi;have d5':=of_decide_eq_true d5;simp only[evK]at he;split at he
    ·rename_i k n hx;cases he;exact zzk h c1 c2 hop hee d1 d4 d2 d3 hi d5' hx hs d6
    ·cases he
   ·cases d5
  ·cases c3
 ·
  split at hc
  ·rename_i x' y' ha;simp only[yhb]at hc;simp only[evK]at he;split at he
   ·rename_i k m k' n hx hy;cases he;obtain rfl:k=k':=hs;exact zxG (b:=true) h hc.1 hc.2 hop rfl ha hx hy
   ·cases he
  ·cases hc
 ·
  split at hc
  ·rename_i x' y' ha;simp only[yhb]at hc;simp only[evK]at he;split at he
   ·rename_i k m k' n hx hy;cases he;obtain rfl:k=k':=hs;exact zxG (b:=false) h hc.1 hc.2 hop rfl ha hx hy
   ·cases he
  ·cases hc
 ·simp[evK]at he
 ·simp[evK]at he
 ·cases hc
end
end Go.Fw
namespace Go.Fw
open Go
inductive COp where
|mk (d:Option Nat)(g:Option (Nat×Bool))(k:K)
abbrev O(d:Nat)(k:K):COp:=.mk (some d) none k
@[simp] def COp.d:COp->Option Nat|.mk d _ _=>d
@[simp] def COp.g:COp->Option (Nat×Bool)|.mk _ g _=>g
@[simp] def COp.k:COp->K|.mk _ _ k=>k
inductive CC where
|skip
|reg (keep:List Nat)(ops:List COp)
|regd (keep ord anc cls:List Nat)(ops:List COp)
|seq (a b:CC)
|cond (c:Ar)(a b:CC)
|block (id:Nat)(b:CC)
|loop (b:CC)
|exit (id:Nat)
|ret
|join (b:CC)
|frz (n es:Nat)(b:CC)
|own (n es:Nat)(b:CC)
|lp (r:Bool)(id:Nat)(st ks:List Nat)(b:CC)
|jn (r:Bool)(st ks:List Nat)(b:CC)
def zxY(os:Array Oper):Option (Nat×Bool)->Option (Nat×Bool)->Bool
|none,none=>true
|some (t,b),some (j,b')=>b==b'&&(os[j]?).bind (·.dst)==some t
|_,_=>false
def chkOp(P:Program)(N:Nat)(os:Array Oper)(c:COp)(o:Oper):Bool:=
 c.d==o.dst&&(match c.d with|some d=>decide (d<N)|none=>true)&&zxY os c.g o.guard&&zsQ P c.k o.op
def zl0(P:Program)(N:Nat)(os:Array Oper):List COp->List Oper->Bool
|[],[]=>true
|c:: l,o:: l'=>chkOp P N os c o&&zl0 P N os l l'
|_,_=>false
def K.ars:K->List Ar
|.mv x|.boxi _ x|.boxm _ x|.load _ x|.nilc x|.not x|.neg x|.conv _ x|.b2s x|.s2b x|.fa _ x|.field _ _ x|.lens x|.lenl x|.isn _ x|.ext x _|.mks _ _ x=>[x]
|.pick c a b=>[c,a,b]
|.alloc _|.bsl0=>[]
|.build _ ps|.buildo _ _ _ ps=>ps.map fun p=>p.2.2
|.bsl _ ps|.bslm _ ps=>ps
|.store _ a x|.bin _ a x|.beq _ a x|.ia _ a x|.idx a x|.app _ a x|.apps a x|.apf _ a x|.mx _ a x|.eqs _ _ a x|.mlk a x=>[a,x]
|.mmk=>[]
|.mup a b x=>[a,b,x]
|.sub x lo hi|.slc _ x lo hi=>x:: (lo.toList++hi.toList)
|.call _ xs|.mkfn _ xs=>xs
|.callv f xs=>f:: xs
def slots(c:COp):List Nat:=
 (c.k.ars.filterMap fun|.t n=>some n|.c _=>none)++(match c.g with|some (t,_)=>[t]|none=>[])
def bindsTo(os:Array Oper)(j:Nat):List Nat:=
 match os[j]? with
 |some o=>(o.after.toList.filter fun e=>Region.binds .any e).map (·.on)
 |none=>[]
def zn1(P:Program)(N:Nat)(os:Array Oper):List Nat->List COp->Bool
|[],[]=>true
|j:: ord,c:: ops=>(match os[j]? with|some o=>chkOp P N os c o|none=>false)&&zn1 P N os ord ops
|_,_=>false
def zif:List Nat->Bool
|[]=>true
|x:: l=>!l.contains x&&zif l
def wfD:List COp->Bool
|[]=>true
|c:: l=>(match c.d with|none=>true|some d=>l.all fun c'=>c'.d !=some d)&&wfD l
def zqK(os:Array Oper)(ord:List Nat):Bool:=
 (List.range ord.length).all fun i=>(bindsTo os (ord.getD i 0)).all fun e=>(ord.take i).contains e
def zxc(os:Array Oper)(ord anc:List Nat):Bool:=
 (List.range ord.length).all fun i=>(List.range i).all fun j=>!(anc.getD i 0).testBit j ||
  (bindsTo os (ord.getD i 0)).any fun e=>ord.getD j 0==e ||(List.range i).any fun q=>decide (j<q)&&ord.getD q 0==e&&(anc.getD q 0).testBit j
def zs5(anc:List Nat)(ops:List COp):Bool:=
 (List.range ops.length).all fun i=>match ops[i]? with
 |some c=>(slots c).all fun t=>(List.range ops.length).all fun j=>match ops[j]? with
  |some c'=>c'.d !=some t ||(decide (j<i)&&(anc.getD i 0).testBit j) ||(decide (i<=j)&&(Nat.beq i j ||(anc.getD j 0).testBit i))
  |none=>true
 |none=>true
def zfj(c:Nat):Nat:=if 5<=c then 3 else c
def confC(a b:Nat):Bool:=
 (decide (3<=zfj a/\2<=zfj b) ||decide (2<=zfj a/\3<=zfj b) ||decide (zfj a=4/\1<=zfj b) ||decide (1<=zfj a/\zfj b=4))&&!(decide (5<=a)&&decide (5<=b)&&a !=b)
def lateB(cls:List Nat)(ops:List COp)(i:Nat):Bool:=
 match ops[i]? with
 |some (.mk (some _) none (.alloc _))=>Nat.beq (cls.getD i 0) 4
 |_=>false
def zxd(anc cls:List Nat)(ops:List COp):Bool:=
 (List.range ops.length).all fun i=>(List.range i).all fun j=>!(confC (cls.getD j 0) (cls.getD i 0)) ||(anc.getD i 0).testBit j ||lateB cls ops i
def zpn(anc cls:List Nat)(ops:List COp):Bool:=
 (List.range ops.length).all fun i=>!(lateB cls ops i) ||((List.range i).all (fun j=>Nat.blt (cls.getD j 0) 5)&&(List.range ops.length).all fun r=>match ops[i]?,ops[r]? with
  |some c,some c'=>((match c.d with|some d=>!((slots c').contains d)|none=>true)&&(lateB cls ops r ||Nat.ble r i ||Nat.beq (cls.getD r 0) 0)) ||(List.range i).all fun j=>Nat.beq (cls.getD j 0) 0 ||(anc.getD r 0).testBit j
  |_,_=>true)
def zBw(P:Program)(N:Nat)(os:Array Oper)(ord anc cls:List Nat)(ops:List COp):Bool:=
 zn1 P N os ord ops&&decide (ord.length=os.size/\cls.length=ops.length)&&zif ord&&(List.range os.size).all (fun i=>ord.contains i)&&wfD ops&&zqK os ord&&zxc os ord anc&&zs5 anc ops&&zxd anc cls ops&&zpn anc cls ops
def chkC(P:Program)(N:Nat):CC->Code->Bool
|.join b,c=>chkC P N b c
|.frz _ _ b,c=>chkC P N b c
|.own _ _ b,c=>chkC P N b c
|.jn _ _ _ b,c=>chkC P N b c
|.lp _ _ _ _ b,.loop b'=>chkC P N b b'
|.skip,.skip=>true
|.skip,.label _=>true
|.reg _ ops,.region _ os false=>zl0 P N os ops os.toList
|.regd _ ord anc cls ops,.region _ os true=>zBw P N os ord anc cls ops
|.seq a b,.seq a' b'=>chkC P N a a'&&chkC P N b b'
|.cond c a b,.cond c' a' b'=>zah c c'&&chkC P N a a'&&chkC P N b b'
|.block i b,.block j b'=>i==j&&chkC P N b b'
|.loop b,.loop b'=>chkC P N b b'
|.exit i,.exit j=>i==j
|.ret,.ret=>true
|_,_=>false
inductive CItem where
|code (c:CC)
|inBlock (id:Nat)
|inLoop (c:CC)
|ops (keep:List Nat)(l:List COp)
|stop
def OpsM(P:Program)(N:Nat)(os:Array Oper):List COp->List Nat->Prop
|[],[]=>True
|c:: l,j:: idx=>(∃o,os[j]? =some o/\chkOp P N os c o=true)/\OpsM P N os l idx
|_,_=>False
inductive MI (P:Program)(N:Nat):List CItem->List Item->Prop
|nil:MI P N [] []
|code {c c' k k'}(h:chkC P N c c'=true)(hk:MI P N k k'):MI P N (.code c:: k) (.code c':: k')
|inBlock {id k k'}(hk:MI P N k k'):MI P N (.inBlock id:: k) (.inBlock id:: k')
|inLoop {c c' k k'}(h:chkC P N c c'=true)(hk:MI P N k k'):MI P N (.inLoop c:: k) (.inLoop c':: k')
|ops {keep l os idx k k'}(h:OpsM P N os l idx)(hk:MI P N k k'):MI P N (.ops keep l:: k) (.inRegion os idx:: k')
|stop {k k'}(hk:MI P N k k'):MI P N (.stop:: k) k'
structure Ctx where
 P:Program
 fn:Func
 n0:Nat
 R:AV->List Ent->Prop
def zvu(n:Nat)(Z β':Bt):Prop:=∀i,i<n->β'[i]? =Z[i]?
def Fin(C:Ctx)(H:Hp)(F:Fr)(Z:Bt)(b:Frame)(cs:List Frame)(m:Machine):Prop:=
 ∃a' todo' w' v r m' H' β',Steps C.P m (lone {b.at a' todo' with mode:=.returning} cs w')/\a'.defers=[]/\(results C.fn a'.tmps).run C.P w'=.ok v w'/\
  C.R r m'/\Rep H' β' r v/\Sat H' F β' m' w'/\HX F H H'/\zvu C.n0 Z β'
def AW(C:Ctx)(its:List CItem)(st:St):Prop:=
 ∀H F Z a w b cs todo,MI C.P C.fn.ntmps its todo->Rel H F Z C.fn.ntmps st a w->C.n0<=st.mem.length->Fin C H F Z b cs (lone (b.at a todo) cs w)
section
variable {C:Ctx}{H H':Hp}{F:Fr}{Z β':Bt}{b:Frame}{cs:List Frame}{m m':Machine}{k:List CItem}{st:St}
theorem Fin.steps(h:Steps C.P m m')(h':Fin C H F Z b cs m'):Fin C H F Z b cs m:=by obtain⟨a',todo',w',v,r,mm,H1,β1,hs,rest⟩:=h';exact⟨a',todo',w',v,r,mm,H1,β1,h.trans hs,rest⟩
theorem Fin.ext(hH:HX F H H')(hβ:zvu C.n0 Z β')(h':Fin C H' F β' b cs m):Fin C H F Z b cs m:=by obtain⟨a',todo',w',v,r,mm,H1,β1,hs,h1,h2,h3,h4,h5,h6,h7⟩:=h';exact⟨a',todo',w',v,r,mm,H1,β1,hs,h1,h2,h3,h4,h5,hH.trans h6,fun i hi=>(h7 i hi).trans (hβ i hi)⟩
theorem zcY.eq0{n:Nat}(h:zcY Z β')(hn:n<=Z.length):zvu n Z β':=by intro i hi;have:Z[i]? =some Z[i]:=ygb (by omega);rw[this];exact h i _ this
theorem AW.skip(h:AW C k st):AW C (.code .skip:: k) st:=by
 intro H F Z a w b cs todo hm hr hn;cases hm with
 |code hc hk=>
  rename_i c' k';cases c'<;>simp[chkC]at hc
  ·exact .steps (.one step_skip) (h H F Z a w b cs k' hk hr hn)
  ·exact .steps (.one step_label) (h H F Z a w b cs k' hk hr hn)
theorem AW.seq{x y:CC}(h:AW C (.code x:: .code y:: k) st):AW C (.code (.seq x y):: k) st:=by
 intro H F Z a w b cs todo hm hr hn;cases hm with
 |code hc hk=>rename_i c' k';cases c'<;>simp[chkC]at hc;exact .steps (.one step_seq) (h H F Z a w b cs _ (.code hc.1 (.code hc.2 hk)) hr hn)
theorem AW.join{x:CC}(h:AW C (.code x:: .stop:: k) st):AW C (.code (.join x):: k) st:=by
 intro H F Z a w b cs todo hm hr hn;cases hm with
 |code hc hk=>simp only[chkC]at hc;exact h H F Z a w b cs _ (.code hc (.stop hk)) hr hn
theorem AW.stop(h:AW C k st):AW C (.stop:: k) st:=by
 intro H F Z a w b cs todo hm hr hn;cases hm with
 |stop hk=>exact h H F Z a w b cs _ hk hr hn
theorem AW.block{id:Nat}{x:CC}(h:AW C (.code x:: .inBlock id:: k) st):AW C (.code (.block id x):: k) st:=by
 intro H F Z a w b cs todo hm hr hn;cases hm with
 |code hc hk=>rename_i c' k';cases c'<;>simp[chkC]at hc;obtain⟨rfl,hc⟩:=hc;exact .steps (.one step_block) (h H F Z a w b cs _ (.code hc (.inBlock hk)) hr hn)
theorem AW.inBlock{id:Nat}(h:AW C k st):AW C (.inBlock id:: k) st:=by
 intro H F Z a w b cs todo hm hr hn;cases hm with
 |inBlock hk=>exact .steps (.one step_inBlock) (h H F Z a w b cs _ hk hr hn)
theorem AW.cond{x y:CC}{c:Ar}{t:Bool}(hc:ar st.env c=.bool t)(h1:t=true->AW C (.code x:: k) st)(h2:t=false->AW C (.code y:: k) st):
 AW C (.code (.cond c x y):: k) st:=by
 intro H F Z a w b cs todo hm hr hn;cases hm with
 |code hk' hk=>
  rename_i c' k';cases c'<;>simp[chkC]at hk';obtain⟨⟨g1,g2⟩,g3⟩:=hk';have r:=hr.ar g1;rw[hc]at r;have e:=zdg r;refine .steps (.one (step_cond e)) ?_;cases t
  ·exact h2 rfl H F Z a w b cs _ (.code g3 hk) hr hn
  ·exact h1 rfl H F Z a w b cs _ (.code g2 hk) hr hn
def zfg(id:Nat):List CItem->Option (List CItem)
|[]=>none
|.inBlock id':: k=>if id'=id then some k else zfg id k
|_:: k=>zfg id k
theorem MI.exit{P:Program}{N id:Nat}:∀{k:List CItem}{todo:List Item},MI P N k todo->∀{k':List CItem},zfg id k=some k'->∃todo',exitTo id todo=some todo'/\MI P N k' todo':=by
 intro k todo h;induction h with
 |nil=>intro k' h';simp[zfg]at h'
 |code _ _ ih=>intro k' h';simp only[zfg]at h';obtain⟨t,h1,h2⟩:=ih h';exact⟨t,by simpa[exitTo]using h1,h2⟩
 | @inBlock id' k0 k1 hk ih=>
  intro k' h';simp only[zfg]at h';split at h'
  ·rename_i e;subst e;cases h';exact⟨k1,by simp[exitTo],hk⟩
  ·rename_i e;obtain⟨t,h1,h2⟩:=ih h';refine⟨t,?_,h2⟩;have:¬(id=id'):=fun h=>e h.symm;simp[exitTo,this,h1,e]
 |inLoop _ _ ih=>intro k' h';simp only[zfg]at h';obtain⟨t,h1,h2⟩:=ih h';exact⟨t,by simpa[exitTo]using h1,h2⟩
 |ops _ _ ih=>intro k' h';simp only[zfg]at h';obtain⟨t,h1,h2⟩:=ih h';exact⟨t,by simpa[exitTo]using h1,h2⟩
 |stop _ ih=>intro k' h';simp only[zfg]at h';exact ih h'
theorem AW.exit{id:Nat}{k':List CItem}(he:zfg id k=some k')(h:AW C k' st):AW C (.code (.exit id):: k) st:=by
 intro H F Z a w b cs todo hm hr hn;cases hm with
 |code hc hk=>rename_i c' k'';cases c'<;>simp[chkC]at hc;subst hc;obtain⟨t,h1,h2⟩:=hk.exit he;exact .steps (.one (step_exit h1)) (h H F Z a w b cs _ h2 hr hn)
theorem zro{P:Program}{N:Nat}{os:Array Oper}:∀(l:List COp)(l':List Oper)(n:Nat),zl0 P N os l l'=true->(∀i o,l'[i]? =some o->os[n+i]? =some o)->
 OpsM P N os l (List.range' n l'.length)
 |[],[],_,_,_=>trivial
 |[],_:: _,_,h,_=>by simp[zl0]at h
 |_:: _,[],_,h,_=>by simp[zl0]at h
 |c:: l,o:: l',n,h,hg=>by simp only[zl0,yhb]at h;simp only[yhs,List.range'_succ,OpsM];refine⟨⟨o,by simpa using hg 0 o rfl,h.1⟩,zro l l' (n+1) h.2 fun i o' hi=>?_⟩;have:=hg (i+1) o' (by simpa using hi);rw[show n+1+i=n+(i+1) by omega];exact this
theorem AW.reg{keep:List Nat}{ops:List COp}(h:AW C (.ops keep ops:: k) st):AW C (.code (.reg keep ops):: k) st:=by
 intro H F Z a w b cs todo hm hr hn;cases hm with
 |code hc hk=>
  rename_i c' k';cases c'<;>try(simp[chkC]at hc;done)
  rename_i id os dr;cases dr<;>simp[chkC]at hc;refine .steps (.one step_region) (h H F Z a w b cs _ (.ops ?_ hk) hr hn);have:=zro ops os.toList 0 hc (fun i o hi=>by simpa using hi);rw[List.range_eq_range'];simpa using this
theorem AW.ops_end{keep:List Nat}(h:AW C k ⟨keep.map fun n=>(n,look st.env n),st.mem⟩):AW C (.ops keep []:: k) st:=by
 intro H F Z a w b cs todo hm hr hn;cases hm with
 |ops ho hk=>
  rename_i os idx k';cases idx with
  |cons _ _=>simp[OpsM]at ho
  |nil=>
   refine .steps (.one step_region_end) (h H F Z a w b cs _ hk ⟨hr.defers,hr.size,fun n=>?_,hr.sat⟩ hn);have:∀l:List Nat,look (l.map fun n=>(n,look st.env n)) n=look st.env n\/look (l.map fun n=>(n,look st.env n)) n=.junk:=by
    intro l;induction l with
    |nil=>exact .inr rfl
    |cons x l ih=>
     simp only[List.map_cons,look];split
     ·rename_i e;subst e;exact .inl rfl
     ·exact ih
   rcases this keep with e|e
   ·rw[e];exact hr.env n
   ·rw[e];exact .junk
def put(env:List (Nat×AV))(d:Option Nat)(v:AV):List (Nat×AV):=
 match d with
 |some d=>(d,v):: env
 |none=>env
@[simp] theorem zrq {env:List (Nat×AV)}{d:Nat}{v:AV}:put env (some d) v=(d,v):: env:=rfl
@[simp] theorem put_none {env:List (Nat×AV)}{v:AV}:put env none v=env:=rfl
theorem zgi{N:Nat}{a:Act}{w w':World}{v:AV}{x:Value}{m':List Ent}{d:Option Nat}
 (h:Rel H F Z N st a w)(hH:zgm H H')(hβ:zcY Z β')(hd:(match d with|some d=>decide (d<N)|none=>true)=true)(hv:Rep H' β' v x)(hs:Sat H' F β' m' w'):
 Rel H' F β' N ⟨put st.env d v,m'⟩ (a.put d x) w':=by
 cases d with
 |none=>exact h.put_none hH hβ hs
 |some d=>exact h.put hH hβ (by simpa using hd) hv hs
theorem ze5{o:Oper}{f:Nat->Option Bool}(h:o.guard=none):Region.wanted o f=true:=by simp[Region.wanted,h]
theorem zuo{kk:K}{c:COp}{o:Oper}{r:Ev}{a:Act}{w:World}{os:Array Oper}{j:Nat}{idx:List Nat}{k':List Item}(hj:os[j]? =some o)(hc:chkOp C.P C.fn.ntmps os c o=true)
 (hw:Region.wanted o (yielded os a.tmps)=true)(hkk:c.k=kk)(he:evK kk st.env st.mem=some r)(hs:r.1)(hr:Rel H F Z C.fn.ntmps st a w):
 ∃a1 w1 H1 β1,Steps C.P (lone (b.at a (.inRegion os (j:: idx):: k')) cs w) (lone (b.at a1 (.inRegion os idx:: k')) cs w1)/\HX F H H1/\zcY Z β1/\
  Rel H1 F β1 C.fn.ntmps ⟨put st.env c.d r.2.1,r.2.2⟩ a1 w1/\∃x,a1=a.put o.dst x:=by
 unfold chkOp at hc;simp only[yhb,yhe]at hc;obtain⟨⟨⟨h1,h2⟩,h3⟩,h4⟩:=hc;subst hkk;obtain⟨x,w',H',β',hrun,g1,g2,g3,g4⟩:=ztr hr h4 he hs;refine⟨a.put o.dst x,w',H',β',?_,g1,g2,?_,x,rfl⟩
 ·rcases hrun with hrun|⟨hrun,rfl⟩
  ·exact .one (zih hj hw hrun)
  ·exact .one (zlb hj hw hrun)
 ·rw[<-h1];exact zgi hr g1.1 g2 h2 g3 g4
theorem zpA{kk:K}{env:List (Nat×AV)}{mem:List Ent}{r:Ev}(he:evK kk env mem=some r):mem.length<=r.2.2.length:=by
 unfold evK at he;have happ:∀{pr es x ys r},zdJ pr mem es x ys=some r->mem.length<=r.2.2.length:=by
  intro pr es x ys r h;unfold zdJ at h;split at h
  ·cases h;simp
  ·split at h
   ·cases h;simp
   ·cases h
  ·cases h
 (repeat' split at he)<;>first
  | (cases he;done)
  | (simp only[Option.some.injEq]at he;subst he;simp;done)
  | (cases he;simp;done)
  |exact happ he
  | (unfold zpy at he
     split at he
     ·rename_i hev;split at he
      ·cases he;simpa using happ hev
      ·cases he
     ·cases he)
theorem AW.op{d:Option Nat}{kk:K}{keep:List Nat}{l:List COp}{r:Ev}(he:evK kk st.env st.mem=some r)(hs:r.1)(h:AW C (.ops keep l:: k) ⟨put st.env d r.2.1,r.2.2⟩):
 AW C (.ops keep (.mk d none kk:: l):: k) st:=by
 intro H F Z a w b cs todo hm hr hn;cases hm with
 |ops ho hk=>
  rename_i os idx k';cases idx with
  |nil=>simp[OpsM]at ho
  |cons j idx=>
   obtain⟨⟨o,hj,hc⟩,ho⟩:=ho;have hg:o.guard=none:=by
    have:=hc;unfold chkOp at this;simp only[yhb]at this;have h3:=this.1.2;cases hog:o.guard with
    |none=>rfl
    |some _=>simp[zxY,hog]at h3
   obtain⟨a1,w1,H1,β1,e1,e2,e3,e4,_⟩:=zuo (b:=b) (cs:=cs) (idx:=idx) (k':=k') hj hc (ze5 hg) rfl he hs hr;refine .steps e1 (.ext e2 (e3.eq0 (by rw[hr.sat.hl];exact hn)) (h H1 F β1 a1 w1 b cs _ (.ops ho hk) e4 (Nat.le_trans hn (zpA he))))
theorem zcU{P:Program}{N:Nat}{os:Array Oper}{d:Option Nat}{kk:K}{o:Oper}{t:Nat}{bb g:Bool}{a:Act}{w:World}(hc:chkOp P N os (.mk d (some (t,bb)) kk) o=true)
 (hr:Rel H F Z N st a w)(ht:look st.env t=.bool g):Region.wanted o (yielded os a.tmps)=(g==bb):=by
 unfold chkOp at hc;simp only[yhb,yhe]at hc;obtain⟨⟨⟨c1,c2⟩,c3⟩,c4⟩:=hc;cases hog:o.guard with
 |none=>simp[zxY,hog]at c3
 |some gw=>
  obtain⟨jj,b'⟩:=gw;simp only[COp.g,hog,zxY,yhb,yhe]at c3;obtain⟨rfl,c3⟩:=c3;have hv:=hr.env t;rw[ht]at hv;have ev:=zdg hv;simp only[Region.wanted,hog,yielded,c3];have hy:a.tmps[t]? =some (.bool g):=by
   cases hx:a.tmps[t]? with
   |none=>simp[hx,undef]at ev
   |some y=>simp[hx]at ev;rw[ev]
  simp only[Option.bind_some,hy];cases g<;>cases bb<;>rfl
theorem zk4{H:Hp}{Z:Bt}:Rep H Z (.tup []) undef:=.tup rfl (by simp)
theorem zkF{P:Program}{N:Nat}{os:Array Oper}{d:Option Nat}{kk:K}{o:Oper}{t:Nat}{bb:Bool}{a:Act}{w:World}(hc:chkOp P N os (.mk d (some (t,bb)) kk) o=true)
 (hr:Rel H F Z N st a w)(ht:look st.env t=.tup []):Region.wanted o (yielded os a.tmps)=false:=by
 unfold chkOp at hc;simp only[yhb,yhe]at hc;obtain⟨⟨⟨c1,c2⟩,c3⟩,c4⟩:=hc;cases hog:o.guard with
 |none=>simp[zxY,hog]at c3
 |some gw=>
  obtain⟨jj,b'⟩:=gw;simp only[COp.g,hog,zxY,yhb,yhe]at c3;obtain⟨rfl,c3⟩:=c3;have hv:=hr.env t;rw[ht]at hv;simp only[Region.wanted,hog,yielded,c3,Option.bind_some];cases hx:a.tmps[t]? with
  |none=>simp
  |some y=>
   simp[hx]at hv;cases hv with
   |tup hl _=>simp
theorem AW.opg{d:Option Nat}{kk:K}{keep:List Nat}{l:List COp}{t:Nat}{bb g:Bool}(ht:look st.env t=.bool g)
 (h1:(g==bb)=true->∃r,evK kk st.env st.mem=some r/\r.1/\AW C (.ops keep l:: k) ⟨put st.env d r.2.1,r.2.2⟩)
 (h2:(g==bb)=false->AW C (.ops keep l:: k) ⟨put st.env d (.tup []),st.mem⟩):AW C (.ops keep (.mk d (some (t,bb)) kk:: l):: k) st:=by
 intro H F Z a w b cs todo hm hr hn;cases hm with
 |ops ho hk=>
  rename_i os idx k';cases idx with
  |nil=>simp[OpsM]at ho
  |cons j idx=>
   obtain⟨⟨o,hj,hc⟩,ho⟩:=ho;have hc':=hc;unfold chkOp at hc';simp only[yhb,yhe]at hc';obtain⟨⟨⟨c1,c2⟩,c3⟩,c4⟩:=hc';have hwant:=zcU hc hr ht;cases hgb:(g==bb)with
   |true=>obtain⟨r,he,hs,h⟩:=h1 hgb;obtain⟨a1,w1,H1,β1,e1,e2,e3,e4,_⟩:=zuo (b:=b) (cs:=cs) (idx:=idx) (k':=k') hj hc (hwant.trans hgb) rfl he hs hr;refine .steps e1 (.ext e2 (e3.eq0 (by rw[hr.sat.hl];exact hn)) (h H1 F β1 a1 w1 b cs _ (.ops ho hk) e4 (Nat.le_trans hn (zpA he))))
   |false=>have hs:=zhc (P:=C.P) (b:=b) (a:=a) (k:=k') (cs:=cs) (w:=w) (rest:=idx) hj (hwant.trans hgb);refine .steps (.one hs) (h2 hgb H F Z _ w b cs _ (.ops ho hk) ?_ hn);rw[<-c1];exact zgi hr (.refl _) (.refl _) c2 zk4 hr.sat
end
end Go.Fw
namespace Go.Fw
open Go
mutual
def AV.bel(n:Nat):AV->Bool
|.ms i _ _ _|.mp i _ _|.mapr i=>decide (i<n)
|.agg cs|.tup cs|.fn _ cs=>AV.belL n cs
|.opt _ v=>v.bel n
|.junk|.int _ _|.bool _|.str _|.e0|.sl _ _|.ip _|.nilp|.nilf|.nilm=>true
def AV.belL(n:Nat):List AV->Bool
|[]=>true
|c:: cs=>c.bel n&&AV.belL n cs
end
theorem AV.belL_iff{n:Nat}:∀(l:List AV),AV.belL n l=true↔∀c∈l,c.bel n=true
|[]=>by simp[AV.belL]
|c:: cs=>by simp[AV.belL,AV.belL_iff cs]
theorem Rep.bel{H:Hp}{Z:Bt}{v:AV}{x:Value}(r:Rep H Z v x){n:Nat}(hp:v.bel n=true):Rep H (Z.take n) v x:=by
 induction r with
 |junk=>exact .junk
 |int h=>exact .int h
 |bool=>exact .bool
 |str h=>exact .str h
 |agg hl hc _ ih=>exact .agg hl hc fun i c v h1 h2=>ih i c v h1 h2 ((AV.belL_iff _).1 (by simpa[AV.bel]using hp) c (ygd h1))
 |tup hl _ ih=>exact .tup hl fun i c v h1 h2=>ih i c v h1 h2 ((AV.belL_iff _).1 (by simpa[AV.bel]using hp) c (ygd h1))
 |e0=>exact .e0
 |sl b o cells f hlen hcap hbig hes hblk hc hcell h _=>exact .sl b o cells f hlen hcap hbig hes hblk hc hcell h
 |ip f hh hc hcell h _=>exact .ip f hh hc hcell h
 |ms hβ h hlen hbig=>simp[AV.bel]at hp;exact .ms (by rw[List.getElem?_take,if_pos hp];exact hβ) h hlen hbig
 |ms0 hβ=>simp[AV.bel]at hp;exact .ms0 (by rw[List.getElem?_take,if_pos hp];exact hβ)
 |mp hβ=>simp[AV.bel]at hp;exact .mp (by rw[List.getElem?_take,if_pos hp];exact hβ)
 |fn hf hl _ ih=>exact .fn hf hl fun i c v h1 h2=>ih i c v h1 h2 ((AV.belL_iff _).1 (by simpa[AV.bel]using hp) c (ygd h1))
 |er h1 h2 h3 _ ih=>exact .er h1 h2 h3 fun i c hi=>ih i c hi ((AV.belL_iff _).1 (by simpa[AV.bel]using hp) c (ygd hi))
 |mapr hβ=>simp[AV.bel]at hp;exact .mapr (by rw[List.getElem?_take,if_pos hp];exact hβ)
 |nilp=>exact .nilp
 |nilf=>exact .nilf
 |nili=>exact .nili
 |nilm=>exact .nilm
 |opt _ ih=>exact .opt fun h=>ih h (by simpa[AV.bel]using hp)
def Ent.bel(n:Nat):Ent->Prop
|.dead=>True
|.arr _ rows=>∀r∈rows,∀c∈r,c.bel n=true
|.mp es=>∀e∈es,e.1.bel n=true/\e.2.bel n=true
theorem Sat.drop{H:Hp}{F:Fr}{Z:Bt}{mem rest:List Ent}{w:World}(h:Sat H F Z (mem++rest) w)(hb:∀e∈mem,e.bel mem.length):Sat H F (Z.take mem.length) mem w:=by
 have get:∀(i:Nat) e,mem[i]? =some e->(mem++rest)[i]? =some e/\i<mem.length:=by intro i e hi;have hl:=(yga.1 hi).1;exact⟨by rw[yge hl];exact hi,hl⟩
 have getβ:∀(i:Nat) x,(Z.take mem.length)[i]? =some x->Z[i]? =some x:=by
  intro i x hi;rw[List.getElem?_take]at hi;split at hi
  ·exact hi
  ·cases hi
 refine{hH:=h.hH,gh:=h.gh,hF:=h.hF,sm:=h.sm,hl:=by rw[List.length_take,h.hl];simp,ent:=fun i e x hi hx=>?_,apart:=fun i e x hi he hx=>h.apart i e x (get i e hi).1 he (getβ i _ hx),inj:=fun i j e e' x y hi he hj he' hx hy hxy=>h.inj i j e e' x y (get i e hi).1 he (get j e' hj).1 he' (getβ i _ hx) (getβ j _ hy) hxy};have h0:=h.ent i e x (get i e hi).1 (getβ i _ hx);have hbe:=hb e (ygd hi);cases e with
 |dead=>trivial
 |arr es rows=>
  cases x with
  |none=>exact h0
  |some x=>obtain⟨b,es',cap⟩:=x;obtain⟨h1,cells,elem,h2,h3,h4,h5,h6,h7,h8⟩:=h0;refine⟨h1,cells,elem,h2,h3,h4,h5,h6,fun i r j c hr hc=>?_,h8⟩;obtain⟨v,hv,hrep⟩:=h7 i r j c hr hc;exact⟨v,hv,hrep.bel (hbe r (ygd hr) c (ygd hc))⟩
 |mp es=>
  cases x with
  |none=>exact h0
  |some x=>obtain⟨b,es',cap⟩:=x;obtain⟨ents,clock,h2,h3,h4⟩:=h0;refine⟨ents,clock,h2,h3,fun i k v e hi he=>?_⟩;obtain⟨r1,r2⟩:=h4 i k v e hi he;have:=hbe _ (ygd hi);exact⟨r1.bel this.1,r2.bel this.2⟩
def Imp(v v':AV):Prop:=∀H Z x,Rep H Z v x->Rep H Z v' x
theorem Imp.refl(v:AV):Imp v v:=fun _ _ _ h=>h
theorem zwb{env:List (Nat×AV)}{n:Nat}:look env n=.junk\/(n,look env n)∈env:=by
 induction env with
 |nil=>exact .inl rfl
 |cons p env ih=>
  obtain⟨m,v⟩:=p;simp only[look];split
  ·rename_i e;subst e;exact .inr (by simp)
  ·rcases ih with h|h
   ·exact .inl h
   ·exact .inr (by simp[h])
section
variable {C:Ctx}{k:List CItem}{st st':St}
theorem AW.imp(he:∀p∈st'.env,Imp (look st.env p.1) p.2)(hm:st'.mem=st.mem)(h:AW C k st'):AW C k st:=by
 intro H F Z a w b cs todo hmi hr hn;refine h H F Z a w b cs todo hmi ⟨hr.defers,hr.size,fun n=>?_,by rw[hm];exact hr.sat⟩ (by rw[hm];exact hn);rcases zwb (env:=st'.env) (n:=n)with e|e
 ·rw[e];exact .junk
 ·exact he _ e _ _ _ (hr.env n)
inductive RV where
|t (n:Nat)
|c (n:Nat)(k:Option Nat)
def rvB(P:Program):ResultVar->RV->Bool
|.tmp t,.t n=>t==n
|.cell a ty,.c n k=>a==n&&znT P ty==some k.isSome&&(match k with|some j=>szB P ty==some j|none=>true)
|_,_=>false
def zxA(P:Program):List ResultVar->List RV->Bool
|[],[]=>true
|x:: l,y:: l'=>rvB P x y&&zxA P l l'
|_,_=>false
def znv:List AV->AV
|[v]=>v
|vs=>.tup vs
def zlu(C:Ctx):List RV->List AV->St->Prop
|[],acc,st=>C.R (znv acc.reverse) st.mem
|.t n:: l,acc,st=>zlu C l (look st.env n:: acc) st
|.c n k:: l,acc,st=>match evK (.load k (.t n)) st.env st.mem with
 |some (p,v,_)=>p/\zlu C l (v:: acc) st
 |none=>False
def zxB(tmps:Array Value):ResultVar->Sem Value
|.tmp t=>pure (tmps.getD t undef)
|.cell a t=>do loadVar t (<-asAddr (tmps.getD a undef))
theorem zsk{P:Program}{t:TypeId}{v x:Value}{w:World}(h:(Instr.loadAt t v).run P w=.ok x w):((do loadVar t (<-asAddr v)):Sem Value).run P w=.ok x w:=by
 unfold Instr.loadAt at h;cases v<;>try(simp[Instr.sureAddr,Sem.run,stuck]at h;done)
 rename_i a;cases a with
 |none=>simp[Instr.sureAddr,Sem.run,stuck]at h
 |some a=>simpa[Instr.sureAddr,asAddr]using h
theorem zy6{P:Program}{N:Nat}{H:Hp}{F:Fr}{Z:Bt}{a:Act}{w:World}{n:Nat}{k:Option Nat}{ty:TypeId}{p:Prop}{v:AV}{m:List Ent}(hr:Rel H F Z N st a w)(ha:znT P ty=some k.isSome)(hz:∀j,k=some j->szB P ty=some j)
 (he:evK (.load k (.t n)) st.env st.mem=some (p,v,m))(hp:p):∃x,(zxB a.tmps (.cell n ty)).run P w=.ok x w/\Rep H Z v x:=by
 let o:Oper:={(default:Oper)with op:=.load ty (.tmp n) }
 have key:∀{v:AV},znR P H Z o a w v->∃x,(zxB a.tmps (.cell n ty)).run P w=.ok x w/\Rep H Z v x:=by
  intro v ⟨x,h1,h2⟩;refine⟨x,?_,h2⟩;have h3:(execOp a.eval o).run P w=((Instr.loadAt ty (a.tmps.getD n undef)).run P w).andThen fun y w'=>.ok (.value y) w':=by
   simp only[execOp,o];first
    | (simp only[Sem.run_bind,Sem.run_pure];rfl)
    | (simp only[Sem.run_map];rfl)
    |simp
  rw[h3]at h1;have:(Instr.loadAt ty (a.tmps.getD n undef)).run P w=.ok x w:=by
   cases hh:(Instr.loadAt ty (a.tmps.getD n undef)).run P w with
   |ok y w'=>rw[hh]at h1;simp only[Result.andThen_ok]at h1;cases h1;rfl
   |halt y w'=>rw[hh]at h1;simp[Result.andThen]at h1
  exact zsk this
 cases k with
 |none=>
  simp only[evK]at he;split at he
  ·rename_i cs hx;cases cs with
   |nil=>simp at he
   |cons c cs=>simp only[List.head?_cons,Option.some.injEq]at he;cases he;exact key (zfb (o:=o) (y:=.tmp n) (t:=ty) hr (by simp[zah]) rfl (by simpa using ha) hx)
  ·rename_i i q off hx;split at he
   ·rename_i es rows hi;split at he
    ·rename_i row hr';split at he
     ·rename_i c hj;cases he;exact key (zfc (o:=o) (y:=.tmp n) (t:=ty) hr (by simp[zah]) rfl (by simpa using ha) hx hi hr' hj)
     ·cases he
    ·cases he
   ·cases he
  ·cases he
 |some j=>
  simp only[evK]at he;split at he
  ·rename_i cs hx;cases he;exact key (zfd (o:=o) (y:=.tmp n) (t:=ty) hr (by simp[zah]) rfl (by simpa using ha) (hz j rfl) hx hp)
  ·rename_i i q off hx;split at he
   ·rename_i es rows hi;split at he
    ·rename_i row hr';cases he;exact key (zfe (o:=o) (y:=.tmp n) (t:=ty) hr (by simp[zah]) rfl (by simpa using ha) (hz j rfl) hx hi hr' hp)
    ·cases he
   ·cases he
  ·cases he
theorem zrt{N:Nat}{H:Hp}{F:Fr}{Z:Bt}{a:Act}{w:World}(hr:Rel H F Z N st a w):∀(l:List ResultVar)(rs:List RV)(acc:List AV),zxA C.P l rs=true->zlu C rs acc st->
 ∃vs xs,(l.mapM (zxB a.tmps)).run C.P w=.ok xs w/\xs.length=vs.length/\C.R (znv (acc.reverse++vs)) st.mem/\∀(i:Nat) v x,vs[i]? =some v->xs[i]? =some x->Rep H Z v x
 |[],[],acc,_,h=>⟨[],[],by simp,rfl,by simpa[zlu]using h,fun i v x h=>by simp at h⟩
 |[],_:: _,_,h,_|_:: _,[],_,h,_=>by simp[zxA]at h
 |rv:: l,y:: rs,acc,hb,h=>by
  simp only[zxA,yhb]at hb;obtain⟨hb1,hb2⟩:=hb;have fin:∀v x,(zxB a.tmps rv).run C.P w=.ok x w->Rep H Z v x->zlu C rs (v:: acc) st->
   ∃vs xs,((rv:: l).mapM (zxB a.tmps)).run C.P w=.ok xs w/\xs.length=vs.length/\C.R (znv (acc.reverse++vs)) st.mem/\∀(i:Nat) v x,vs[i]? =some v->xs[i]? =some x->Rep H Z v x:=by
   intro v x h1 h2 h3;obtain⟨vs,xs,g1,g2,g3,g4⟩:=zrt hr l rs (v:: acc) hb2 h3;refine⟨v:: vs,x:: xs,?_,by simp[g2],by simpa using g3,fun i v' x' hv hx=>?_⟩
   ·simp only[List.mapM_cons,Sem.run_bind,h1,Result.andThen_ok,g1,Sem.run_pure]
   ·cases i with
    |zero=>simp at hv hx;subst hv;subst hx;exact h2
    |succ i=>exact g4 i v' x' (by simpa using hv) (by simpa using hx)
  cases rv with
  |tmp t=>
   cases y with
   |c _ _=>simp[rvB]at hb1
   |t n=>simp only[rvB,yhe]at hb1;subst hb1;exact fin _ _ (by simp[zxB]) (hr.env t) h
  |cell b ty=>
   cases y with
   |t _=>simp[rvB]at hb1
   |c n k=>
    simp only[rvB,yhb,yhe]at hb1;obtain⟨⟨rfl,c2⟩,c3⟩:=hb1;simp only[zlu]at h;split at h
    ·rename_i p v m he;obtain⟨x,h1,h2⟩:=zy6 (P:=C.P) hr c2 (fun j hj=>by subst hj;simpa using c3) he h.1;exact fin v x h1 h2 h.2
    ·exact h.elim
def zCN:List Value->Value
|[v]=>v
|vs=>.tuple vs.toArray
theorem AW.leave{rs:List RV}{H:Hp}{F:Fr}{Z:Bt}{a:Act}{w:World}{b:Frame}{cs:List Frame}{todo todo':List Item}(hres:zxA C.P C.fn.results.toList rs=true)(h:zlu C rs [] st)
 (hr:Rel H F Z C.fn.ntmps st a w)(hs:Steps C.P (lone (b.at a todo) cs w) (lone {b.at a todo' with mode:=.returning} cs w)):Fin C H F Z b cs (lone (b.at a todo) cs w):=by
 obtain⟨vs,xs,g1,g2,g3,g4⟩:=zrt hr _ rs [] hres h;simp only[List.reverse_nil,List.nil_append]at g3;have hrun:(results C.fn a.tmps).run C.P w=.ok (zCN xs) w:=by
  unfold results;rw[Array.mapM_eq_mapM_toList];have hm:∀f:ResultVar->Sem Value,(∀x,f x=zxB a.tmps x)->(C.fn.results.toList.mapM f).run C.P w=.ok xs w:=fun f hf=>by rw[show f=zxB a.tmps from funext hf,g1]
  simp only[Sem.run_bind,Sem.run_map];rw[hm _ (fun x=>by cases x<;>rfl)];simp only[Result.andThen_ok,Sem.run_pure];congr 1;match xs with
  |[]=>rfl
  |[r]=>rfl
  |x:: y:: rs=>simp[zCN]
 refine⟨a,todo',w,_,_,st.mem,H,Z,hs,hr.defers,hrun,g3,?_,hr.sat,.refl _ _,fun _ _=>rfl⟩;match vs,xs,g2 with
 |[],[],_=>exact .tup rfl (by simp)
 |[v],[x],_=>exact g4 0 v x rfl rfl
 |v1:: v2:: vs,x1:: x2:: xs,g2=>refine .tup (by simpa using g2) fun i c v hc hv=>?_;exact g4 i c v hc (by simpa using hv)
theorem AW.ret{rs:List RV}(hres:zxA C.P C.fn.results.toList rs=true)(h:zlu C rs [] st):AW C (.code .ret:: k) st:=by
 intro H F Z a w b cs todo hmi hr _;cases hmi with
 |code hc hk=>rename_i c' k';cases c'<;>simp[chkC]at hc;exact AW.leave hres h hr (.one step_ret)
theorem AW.fall{rs:List RV}(hres:zxA C.P C.fn.results.toList rs=true)(h:zlu C rs [] st):AW C [] st:=by
 intro H F Z a w b cs todo hmi hr _;cases hmi with
 |nil=>exact AW.leave hres h hr (.one step_end)
theorem AW.own{n es:Nat}(hn:look st.env n=.e0)(h:AW C k ⟨(n,.ms st.mem.length es 0 0):: st.env,st.mem++[.arr es []]⟩):AW C k st:=by
 intro H F Z a w b cs todo hmi hr hn0;refine .ext (.refl _ _) ((zcY.append Z [none]).eq0 (by rw[hr.sat.hl];exact hn0)) (h H F (Z++[none]) a w b cs todo hmi ⟨hr.defers,hr.size,fun m=>?_,hr.sat.own_none es⟩ (by simp;omega));simp only[look];split
 ·rename_i e;subst e;have:=hr.env n;rw[hn]at this;generalize a.tmps.getD n undef=v at this;cases this with
  |e0=>exact .ms0 (x:=none) (by rw[<-hr.sat.hl];simp)
 ·exact(hr.env m).mono (.refl _) (.append _ _)
theorem AW.wrap{x y:CC}(hw:∀c,chkC C.P C.fn.ntmps y c=true->chkC C.P C.fn.ntmps x c=true)(h:AW C (.code x:: k) st):AW C (.code y:: k) st:=by
 intro H F Z a w b cs todo hm hr hn;cases hm with
 |code hc hk=>exact h H F Z a w b cs _ (.code (hw _ hc) hk) hr hn
theorem AW.lit{n:Nat}{v:AV}(hv:Imp (look st.env n) v)(h:AW C k ⟨(n,v):: st.env,st.mem⟩):AW C k st:=by
 intro H F Z a w b cs todo hmi hr hn;refine h H F Z a w b cs todo hmi ⟨hr.defers,hr.size,fun m=>?_,hr.sat⟩ hn;simp only[look];split
 ·rename_i e;subst e;exact hv _ _ _ (hr.env _)
 ·exact hr.env m
theorem Imp.e0{es:Nat}:Imp .e0 (.sl es []):=fun H Z x h=>by cases h;exact .sl 0 0 #[] (fun _ _=>undef) rfl (Nat.le_refl _) (Nat.zero_le _) (by simp) (by simp) (by simp) (by simp) (by simp)
end
end Go.Fw
