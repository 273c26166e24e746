/- A part of the proof: what stands for the program, its functions, and what they come to. -/
import Derived.Test.YtgeocbndmfcjgaaM4
import Derived.ProofKit
import Derived.Sort.Row
import Derived.Sort.Grow
import Derived.Lib.SlicesCompact
import Derived.Below
import Derived.Laws.AppendOwn
set_option linter.all false
namespace Go.Fw
open Go
def AllOk (P:Program):List TE→Prop
 | []=>True
 | e :: l=>EOk P e∧AllOk P l
theorem AllOk.mem {P:Program} : ∀ {l:List TE},AllOk P l→∀ e∈l,EOk P e
 | [],_,e,h=>by cases h
 | x :: l,h,e,he=>by
  rcases List.mem_cons.1 he with rfl | he
  ·exact h.1
  ·exact AllOk.mem h.2 e he
theorem EOk.pure {P:Program}{Φ : List TE}{tys:List (Nat×An)}{f:FuncId}{c:CC}{np:Nat}{rs:List RV}{ash:List Sh}{rsh:Sh}{F:DatL (ash++[].map RK.sh)→Option (DatL (rsh :: [].map RK.sh))}
  (hf:FnOk P f c np rs)(hn:ash.length=np)(hΦ : AllOk P Φ)(ha:Sh.purL ash=true)(hr:rsh.pur=true)(hx:∀ d,execF Φ tys c rs ash [] rsh [] d=F d):EOk P ⟨f,ash,[],rsh,[],F⟩ :=
 show PEok P _ from ⟨rfl,rfl,ha,hr,fun d _ h=>execF_PS hf hn hΦ.mem ha hr ((hx d).trans h)⟩
theorem EOk.te {P:Program}{Φ : List TE}{tys:List (Nat×An)}{f:FuncId}{c:CC}{np:Nat}{rs:List RV}{ash:List Sh}{rin:List RK}{rsh:Sh}{rout:List RK}{F:DatL (ash++rin.map RK.sh)→Option (DatL (rsh :: rout.map RK.sh))}
  (hf:FnOk P f c np rs)(hn:ash.length=np)(hΦ : AllOk P Φ)(hw:wfE ⟨f,ash,rin,rsh,rout,F⟩ = true)(hne:isNil rout=false)(hx:∀ d,execF Φ tys c rs ash rin rsh rout d=F d):EOk P ⟨f,ash,rin,rsh,rout,F⟩:=by
 have:=execF_TE hf hn hΦ.mem hw hne (fun d r h=>(hx d).trans h)
 unfold EOk
 simp only [hne,Bool.and_false]
 exact this
theorem EOk.zeroP {P:Program}{f:FuncId}{ash:List Sh}{rsh:Sh}{F:DatL (ash++[].map RK.sh)→Option (DatL (rsh :: [].map RK.sh))}
  (ha:Sh.purL ash=true)(hr:rsh.pur=true)(h:∀ d,F d=none):EOk P ⟨f,ash,[],rsh,[],F⟩ :=
 show PEok P _ from ⟨rfl,rfl,ha,hr,fun d r h'=>by have h2:F d=some r:=h'; rw [h d] at h2; cases h2⟩
theorem EOk.zeroT {P:Program}{f:FuncId}{ash:List Sh}{rin:List RK}{rsh:Sh}{rout:List RK}{F:DatL (ash++rin.map RK.sh)→Option (DatL (rsh :: rout.map RK.sh))}
  (hw:wfE ⟨f,ash,rin,rsh,rout,F⟩ = true)(hne:isNil rout=false)(h:∀ d,F d=none):EOk P ⟨f,ash,rin,rsh,rout,F⟩:=by
 unfold EOk
 simp only [hne,Bool.and_false]
 exact ⟨hw,fun d r h'=>by have h2:F d=some r:=h'; rw [h d] at h2; cases h2⟩
theorem EOk.limP {P:Program}{f:FuncId}{ash:List Sh}{rsh:Sh}{G:Nat→DatL (ash++[].map RK.sh)→Option (DatL (rsh :: [].map RK.sh))}
  (h:∀ n,EOk P ⟨f,ash,[],rsh,[],G n⟩):EOk P ⟨f,ash,[],rsh,[],limF G⟩:=by
 have h0:PEok P _:=h 0
 refine show PEok P _ from ⟨rfl,rfl,h0.ash,h0.rsh,fun d r h'=>?_⟩
 obtain ⟨n,hn⟩:=limF_some h'
 have hn':PEok P _:=h n
 exact hn'.ok d r hn
theorem EOk.limT {P:Program}{f:FuncId}{ash:List Sh}{rin:List RK}{rsh:Sh}{rout:List RK}{G:Nat→DatL (ash++rin.map RK.sh)→Option (DatL (rsh :: rout.map RK.sh))}
  (hne:isNil rout=false)(h:∀ n,EOk P ⟨f,ash,rin,rsh,rout,G n⟩):EOk P ⟨f,ash,rin,rsh,rout,limF G⟩:=by
 unfold EOk at h ⊢
 simp only [hne,Bool.and_false] at h ⊢
 refine ⟨(h 0).wf,fun d r h'=>?_⟩
 obtain ⟨n,hn⟩:=limF_some h'
 exact (h n).ok d r hn
end Go.Fw
namespace Go.Fw
open Go Go.RowKit
def heapOf (W:World):Hp:=fun b=>W.heap[b]?
theorem PS.calls {P:Program}{f:FuncId}{args:List AV}{r:AV}(h:PS P f args r)(W:World)(cargs:Array Value)(hl:cargs.size=args.length)
  (ha:∀ (i:Nat) v x,args[i]? = some v→cargs[i]? = some x→Rep (heapOf W) [] v x) :
  Calls P f cargs W fun e W'=>∃ v,e=.returned v∧Below W.heap.size W W'∧∃ H',Rep H' [] r v:=by
 have hs:Sat (heapOf W) ⟨fun _=>none,W⟩ [] [] W :=
  {hH:=fun b o hb=>hb,hF:=(fun b o hb=>by cases hb),sm:=⟨rfl,rfl,rfl,Nat.le_refl _⟩,hl:=rfl,ent:=fun i e x hi=>by simp at hi,apart:=fun i e x hi=>by simp at hi,
   inj:=fun i j e e' x y hi=>by simp at hi }
 refine (h.sp.2 (heapOf W) ⟨fun _=>none,W⟩ [] cargs W hs hl ha).mono fun e w' ⟨v,r',m',H',β',h1,⟨h2,_⟩,h3,h4,h5,_⟩=>?_
 subst h2
 refine ⟨v,h1,⟨h4.sm.os,h4.sm.tape,h4.sm.output,h4.sm.size,fun k hk=>?_⟩,H',h3.pure h.pr _⟩
 have hb:heapOf W k=some W.heap[k]:=by simp [heapOf,hk]
 rw [h4.hH _ _ (h5.1 _ _ hb)]
 exact hb.symm
theorem maxLen_eq:maxLen=BIG:=by unfold maxLen BIG; rfl
def CR' (W:World)(cs:List AV)(vs:List Value):Prop :=
 vs.length=cs.length∧(∀ c∈cs,c.isCell=true)∧∀ (i:Nat) c v,cs[i]? = some c→vs[i]? = some v→Rep (heapOf W) [] c v
section
variable {H:Type}{enc:TypeId×Value→H}{P:Program}{W:World}{sp:Nat→Bool}{held:Bool}
def Reads (enc:TypeId×Value→H)(P:Program)(W:World)(sp:Nat→Bool)(held:Bool)(fuel:Nat)(t:TypeId){α:Type}(e:α→List AV):Prop :=
 ∀ cs d ps,DataW.trod enc P W 0 sp held fuel t cs=some (d,ps)→∃ x,CR' W (e x) cs
theorem CR'.one {c:AV}{v:Value}(hc:c.isCell=true)(h:Rep (heapOf W) [] c v):CR' W [c] [v] :=
 ⟨rfl,by simpa using hc,fun i c' v' h1 h2=>by
  cases i with
  | zero=>simp at h1 h2; subst h1; subst h2; exact h
  | succ i=>simp at h1⟩
theorem reads_zero {t:TypeId}{α:Type}{e:α→List AV} : Reads enc P W sp held 0 t e:=fun cs d ps h=>by simp [DataW.trod] at h
theorem mapM_some {α β:Type}{f:α→Option β} : ∀ {l:List α}{r:List β},l.mapM f=some r→r.length=l.length∧∀ (i:Nat) x,l[i]? = some x→∃ y,f x=some y∧r[i]? = some y
 | [],r,h=>by simp at h; subst h; simp
 | a :: l,r,h=>by
  simp only [List.mapM_cons,Option.bind_eq_bind,Option.bind_eq_some_iff,Option.pure_def,Option.some.injEq] at h
  obtain ⟨y,hy,ys,hys,rfl⟩:=h
  obtain ⟨g1,g2⟩:=mapM_some hys
  refine ⟨by simp [g1],fun i x hi=>?_⟩
  cases i with
  | zero=>simp at hi; subst hi; exact ⟨y,hy,rfl⟩
  | succ i=>simpa using g2 i x (by simpa using hi)
theorem exists_listA {α:Type}{p:Nat→α→Prop} : ∀ (n:Nat),(∀ j,j<n→∃ v,p j v)→∃ vs:List α,vs.length=n∧∀ (j:Nat) v,vs[j]? = some v→p j v
 | 0,_=>⟨[],rfl,fun j v h=>by simp at h⟩
 | n+1,h=>by
  obtain ⟨vs,h1,h2⟩:=exists_listA n fun j hj=>h j (by omega)
  obtain ⟨x,hx⟩:=h n (by omega)
  refine ⟨vs++[x],by simp [h1],fun j v hj=>?_⟩
  rcases Nat.lt_trichotomy j n with hlt | rfl | hgt
  ·rw [List.getElem?_append_left (by omega)] at hj; exact h2 j v hj
  ·rw [List.getElem?_append_right (by omega),h1] at hj
   simp at hj; subst hj; exact hx
  ·rw [List.getElem?_eq_none (by simp; omega)] at hj; cases hj
theorem cells_get {a:Addr}{n:Nat}{vs:List Value}(h:W.cells? 0 a n=some vs):vs.length=n∧∀ j,j<n→∃ v,vs[j]? = some v∧W.cell? (a.add j)=some v:=by
 unfold World.cells? at h
 rw [if_pos (Nat.zero_le _)] at h
 obtain ⟨g1,g2⟩:=mapM_some h
 refine ⟨by simpa using g1,fun j hj=>?_⟩
 obtain ⟨y,h1,h2⟩:=g2 j j (by simp [hj])
 exact ⟨y,h2,h1⟩
theorem cell_block {a:Addr}{v:Value}(h:W.cell? a=some v):a.spot=none∧∃ c elem fz,W.heap[a.block]? = some (.cells c elem fz)∧c[a.off]? = some v:=by
 unfold World.cell? at h
 split at h
 ·rename_i c elem fz hb
  split at h
  ·cases h
  ·rename_i hs
   exact ⟨by simpa using hs,c,elem,fz,hb,h⟩
 ·cases h
theorem reads_slice {t te:TypeId}{α:Type}{e:α→List AV}{es:Nat}(ht:P.underlying t=some (.slice te))(hes:P.cellsOf te=es)(hlen:∀ x,(e x).length=es)(hpos:0<es)(fuel:Nat)
  (he:Reads enc P W sp held fuel te e):Reads enc P W sp held (fuel+1) t (fun xs:List α=>[.sl es (xs.map e)]):=by
 intro cs d ps h
 unfold DataW.trod at h
 rw [ht] at h
 match cs,h with
 | [.slice none 0 0],h =>
  exact ⟨[],.one rfl (.sl 0 0 #[] (fun _ _=>undef) rfl (Nat.le_refl _) (Nat.zero_le _) (by simp) (by simp) (by simp) (by simp) (by simp))⟩
 | [.slice (some a) len cap],h =>
  simp only [hes] at h
  split at h
  ·rename_i hb
   rw [Option.bind_eq_some_iff] at h
   obtain ⟨elems,h1,h2⟩:=h
   obtain ⟨g1,g2⟩:=mapM_some h1
   have el:∀ i,i<len→∃ x vs,W.cells? 0 (a.add (i * es)) es=some vs∧CR' W (e x) vs:=by
    intro i hi
    obtain ⟨y,hy,_⟩:=g2 i i (by simp [hi])
    rw [Option.bind_eq_some_iff] at hy
    obtain ⟨vs,hv,hr⟩:=hy
    obtain ⟨x,hx⟩:=he vs y.1 y.2 hr
    exact ⟨x,vs,hv,hx⟩
   obtain ⟨hb0,hlc,hcm⟩:=hb
   obtain ⟨xs,x1,x2⟩:=exists_listA (p:=fun i x=>∃ vs,W.cells? 0 (a.add (i * es)) es=some vs∧CR' W (e x) vs) len el
   refine ⟨xs,.one rfl ?_⟩
   have hlenBIG:len≤BIG:=by rw [← maxLen_eq]; omega
   by_cases h0:len=0
   ·subst h0
    obtain rfl:xs=[]:=List.length_eq_zero_iff.1 x1
    exact .sl 0 0 #[] (fun _ _=>undef) rfl (Nat.zero_le _) (Nat.zero_le _) (by simp) (by simp) (by simp) (by simp) (by simp)
   ·obtain ⟨x0,vs0,c0,_⟩:=el 0 (by omega)
    obtain ⟨_,cg⟩:=cells_get c0
    obtain ⟨v0,_,hc0⟩:=cg 0 hpos
    have ha0:(a.add (0 * es)).add 0=a:=by simp [Addr.add]
    rw [ha0] at hc0
    obtain ⟨hspot,c,elem,fz,hblk,_⟩:=cell_block hc0
    obtain ⟨b,o,sp'⟩:=a
    simp only at hspot hblk
    subst hspot
    have cell:∀ i,i<len→∀ x,xs[i]? = some x→∀ j,j<es→∃ v,c[o+i * es+j]? = some v∧∀ cc,(e x)[j]? = some cc→Rep (heapOf W) [] cc v:=by
     intro i hi x hx j hj
     obtain ⟨vs,hv,hcr⟩:=x2 i x hx
     obtain ⟨_,cg⟩:=cells_get hv
     obtain ⟨v,hvj,hcell⟩:=cg j hj
     rw [addr_add,addr_add] at hcell
     obtain ⟨_,c',elem',fz',hb',hcv⟩:=cell_block hcell
     simp only at hb' hcv
     rw [hblk] at hb'
     cases hb'
     exact ⟨v,hcv,fun cc hcc=>hcr.2.2 j cc v hcc hvj⟩
    refine .sl b o c (fun i j=>c.getD (o+i * es+j) undef) (by simp [x1]) hlc hlenBIG (fun r hr=>?_) (fun _=>⟨rfl,elem,fz,hblk⟩) (fun i j hi hj=>?_) (fun r hr cc hcc=>?_) (fun i r j cc hi hj=>?_)
    ·obtain ⟨x,_,rfl⟩:=List.mem_map.1 hr; exact hlen x
    ·simp only [List.length_map] at hi
     obtain ⟨v,hv,_⟩:=cell i (by omega) xs[i] (List.getElem?_eq_getElem hi) j hj
     simp [hv]
    ·obtain ⟨x,hx,rfl⟩:=List.mem_map.1 hr
     obtain ⟨i,hi⟩:=List.getElem?_of_mem hx
     obtain ⟨vs,_,hcr⟩:=x2 i x hi
     exact hcr.2.1 cc hcc
    ·rw [List.getElem?_map,Option.map_eq_some_iff] at hi
     obtain ⟨x,hx,rfl⟩:=hi
     have hilt:=(List.getElem?_eq_some_iff.1 hx).1
     have hjlt:=(List.getElem?_eq_some_iff.1 hj).1
     rw [hlen] at hjlt
     obtain ⟨v,hv,hrep⟩:=cell i (by omega) x hx j hjlt
     simp only [Array.getD_eq_getD_getElem?,hv,Option.getD_some]
     exact hrep cc hj
  ·cases h
end
def encY (n:Int):List AV:=[.int .u8 n]
theorem reads_u8 {H:Type}{enc:TypeId×Value→H}{P:Program}{W:World}{sp:Nat→Bool}{held:Bool}{t:TypeId}(ht:P.underlying t=some (.int .u8))(fuel:Nat):Reads enc P W sp held fuel t encY:=by
 intro cs d ps h
 cases fuel with
 | zero=>simp [DataW.trod] at h
 | succ fuel =>
  unfold DataW.trod at h
  rw [ht] at h
  match cs,h with
  | [.int k n],h =>
   simp only [] at h
   split at h
   ·rename_i hs
    obtain ⟨rfl,hs⟩:=hs
    refine ⟨n,.one rfl (.int ?_)⟩
    simpa [Lit.wf] using hs
   ·cases h
theorem rep_bytes {H:Hp}{xs:List Int}{v:Value}(h:Rep H [] (.sl 1 (xs.map encY)) v):∀ x∈xs,0≤x∧x≤255:=by
 intro x hx
 obtain ⟨i,hi,rfl⟩:=List.getElem_of_mem hx
 cases h with
 | sl b o cells f hlen hcap hbig hes hblk hc hcell hh =>
  have:=hh i (encY xs[i]) 0 (.int .u8 xs[i]) (by simp [hi]) rfl
  generalize f i 0=w at this
  cases this with
  | int h =>
   have h1:IntKind.min .u8=0:=rfl
   have h2:IntKind.max .u8=255:=rfl
   rw [h1,h2] at h
   exact h
end Go.Fw
namespace Go.Fw
open Go Go.RowKit
theorem endM_arr1 (t:Ty)(xs:List (TV t)):endM 1 1 [.arr t xs .no]=[.arr t.sz (xs.map (encT t))]:=by
 simp only [endM,rootsL,rootL,osOf]
 letI pin0:Pin:={ nin:=0,ini:=[],len:=rfl }
 have h:=layRs_no (1+(1 - 1)) xs
 simp [h]
theorem Sat.more {H:Hp}{F:Fr}{β:Bt}{mem:List Ent}{w w':World}(h:Sat H F β mem w)(hw:∀ b,b<w.heap.size→w'.heap[b]? = w.heap[b]?)(hs:w.heap.size≤w'.heap.size)(ho:w'.os=w.os∧w'.tape=w.tape∧w'.output=w.output):Sat H F β mem w' :=
 {hH:=fun b o x=>by rw [hw b (heap_lt (h.hH _ _ x))]; exact h.hH b o x
  hF:=fun b o x=>by rw [hw b (heap_lt (h.hF _ _ x))]; exact h.hF b o x
  sm:=⟨ho.1.trans h.sm.os,ho.2.1.trans h.sm.tape,ho.2.2.trans h.sm.output,Nat.le_trans h.sm.size hs⟩
  hl:=h.hl
  ent:=fun i e x hi hx=>(h.ent i e x hi hx).mono (HExt.refl _) (BExt.refl _) fun b es cap hxe hl=>by
   subst hxe
   exact hw b ((h.ent i e _ hi hx).lt hl)
  apart:=h.apart
  inj:=h.inj }
theorem ints_of {H:Hp}{F:Fr}{β:Bt}{mem:List Ent}{w:World}(h:Sat H F β mem w){i:Nat}{xs:List Int}{v:Value}{n:Nat}(hi:mem[i]? = some (.arr 1 (xs.map encI)))(hn:xs.length=n)(hv:Rep H β (.ms i 1 0 n) v) :
  (xs=[]∧∃ a,v=.slice a 0 0)∨∃ b cap capT cells elem,v=.slice (some ⟨b,0,none⟩) n cap∧n≤cap∧cap≤capT∧β[i]? = some (some (b,1,capT))∧w.heap[b]? = some (.cells cells elem (0,0))∧cells.size=capT ∧
   (∀ (j:Nat)(hj:j<xs.length),cells[j]? = some (.int .i64 xs[j]))∧∀ x∈xs,IntKind.min .i64≤x∧x≤IntKind.max .i64:=by
 cases hv with
 | ms hβ hc hl hb =>
  rename_i b capT cap
  right
  obtain ⟨h1,cells,elem,h2,h3,h4,h5,h6,h7⟩:=h.ent i _ _ hi hβ
  refine ⟨b,cap,capT,cells,elem,by simp,hl,by omega,hβ,h2,by simpa using h3,fun j hj=>?_,fun x hx=>?_⟩
  ·obtain ⟨x,hx,hr⟩:=h7 j (encI xs[j]) 0 (.int .i64 xs[j]) (by simp [hj]) rfl
   cases hr
   simpa using hx
  ·obtain ⟨j,hj,rfl⟩:=List.getElem_of_mem hx
   obtain ⟨x,hx,hr⟩:=h7 j (encI xs[j]) 0 (.int .i64 xs[j]) (by simp [hj]) rfl
   cases hr with
   | int h=>exact h
 | ms0 hβ=>exact .inl ⟨by simpa using hn,_,rfl⟩
open Go.Sort in
theorem put_ints {w:World}{b:Nat}{cells:Array Value}{elem:TypeId}(h:w.heap[b]? = some (.cells cells elem (0,0)))(ys:List Int) :
  (putRow (Value.int .i64) w b 0 ys.toArray).heap=(setO w b (.cells (putCells (Value.int .i64) 0 ys.toArray cells) elem (0,0))).heap:=by
 have hb:b<w.heap.size:=heap_lt h
 unfold putRow mapBlock setO
 apply Array.ext_getElem?
 intro k
 simp only [Array.getElem?_modify,Array.getElem?_setIfInBounds]
 by_cases hk:b=k
 ·subst hk
  simp only [if_true,h,hb]
  rfl
 ·simp [hk]
open Go.Sort in
theorem rewritten {H:Hp}{F:Fr}{β:Bt}{w:World}{xs ys:List Int}{b cap capT:Nat}{cells:Array Value}{elem:TypeId}(hs:Sat H F β [.arr 1 (xs.map encI)] w)(h1:xs.length≤cap)(h2:cap≤capT)(h3:β[0]? = some (some (b,1,capT)))(h4:w.heap[b]? = some (.cells cells elem (0,0)))(h5:cells.size=capT)
  (hys:ys.length=xs.length)(hrg:∀ y∈ys,IntKind.min .i64≤y∧y≤IntKind.max .i64)(n:Nat)(os:Array Obj):Sat H F β [.arr 1 (ys.map encI)] (grow (putRow (Value.int .i64) (Sort.ahead w n) b 0 ys.toArray) os):=by
 have hcs:∀ (j:Nat)(hj:j<ys.length),(putCells (Value.int .i64) 0 ys.toArray cells)[j]? = some (.int .i64 ys[j]):=fun j hj=>by
  have hjc:j<cells.size:=by omega
  unfold putCells
  simp [hjc,hj]
 have hr:=hs.rewrite (i:=0) (rows':=ys.map encI) (cells:=putCells (Value.int .i64) 0 ys.toArray cells) (elem:=elem) rfl h3 (by simp [putCells,h5]) (by simp; omega) (fun r hr=>by
   obtain ⟨y,_,rfl⟩:=List.mem_map.1 hr
   rfl) (fun r hr c hc=>by
   obtain ⟨y,_,rfl⟩:=List.mem_map.1 hr
   obtain rfl:c=.int .i64 y:=by simpa [encI] using hc
   rfl) (fun i r j c hi hj=>by
   obtain ⟨y,hy,rfl⟩ : ∃ y,ys[i]? = some y∧encI y=r:=by simpa using hi
   obtain ⟨hil,rfl⟩:=List.getElem?_eq_some_iff.1 hy
   have hj0:j=0:=by
    have:=(List.getElem?_eq_some_iff.1 hj).1
    simp [encI] at this; exact this
   subst hj0
   obtain rfl:c=.int .i64 ys[i]:=by simpa [encI] using hj.symm
   refine ⟨_,by simpa using hcs i hil,.int ?_⟩
   exact hrg _ (List.getElem_mem hil))
 have hh:∀ k,k<w.heap.size→(grow (putRow (Value.int .i64) (Sort.ahead w n) b 0 ys.toArray) os).heap[k]? = (setO w b (.cells (putCells (Value.int .i64) 0 ys.toArray cells) elem (0,0))).heap[k]?:=fun k hk=>by
  have hp:=put_ints (w:=Sort.ahead w n) (b:=b) (cells:=cells) (elem:=elem) h4 ys
  have hsz:(setO (Sort.ahead w n) b (.cells (putCells (Value.int .i64) 0 ys.toArray cells) elem (0,0))).heap.size=w.heap.size:=by simp [setO,Sort.ahead]
  unfold grow
  dsimp only
  rw [hp,Array.getElem?_append_left (by rw [hsz]; exact hk)]
  rfl
 refine hr.more (fun k hk=>hh k (by simpa [setO] using hk)) ?_ ⟨rfl,rfl,rfl⟩
 have hp:=put_ints (w:=Sort.ahead w n) (b:=b) (cells:=cells) (elem:=elem) h4 ys
 unfold grow
 dsimp only
 rw [hp]
 simp [setO,Sort.ahead]
open Go.Sort in
theorem sort_spec {P:Program}{f:FuncId}(hcall:∀ as w,(callFunc f as).run P w=.ok (.enter f as) w)
  (hsort:∀ (blk off cap:Nat)(zs:List Int)(w:World),Holds (Value.int .i64) w blk off zs.toArray→blk<w.heap.size→zs.length<4611686018427387904 →
   Calls P f #[.slice (some ⟨blk,off,none⟩) zs.length cap] w fun e w'=>e=.returned (.tuple #[])∧∃ n os,w'=grow (putRow (Value.int .i64) (Sort.ahead w n) blk off (zs.mergeSort fun x y=>decide (x≤y)).toArray) os)
  (hnone:∀ (p:Option Addr)(cap:Nat)(w:World),Calls P f #[.slice p 0 cap] w fun e w'=>e=.returned (.tuple #[])∧w'=w)
  (xs:List Int)(hx:xs.length<4611686018427387904) :
  Spec P f [.ms 0 1 0 xs.length] [.arr 1 (xs.map encI)] (fun r' m'=>r'=.tup []∧m'=[.arr 1 ((xs.mergeSort fun x y=>decide (x≤y)).map encI)]):=by
 refine ⟨hcall,fun H F β cargs w hs hl ha=>?_⟩
 obtain ⟨v,rfl⟩ : ∃ v,cargs = #[v]:=by
  rcases cargs with ⟨l⟩
  match l,hl with
  | [v],_=>exact ⟨v,rfl⟩
 have hv:=ha 0 _ v rfl rfl
 rcases ints_of hs rfl rfl hv with ⟨rfl,a,rfl⟩ | ⟨b,cap,capT,cells,elem,rfl,h1,h2,h3,h4,h5,h6,h7⟩
 ·refine (hnone a 0 w).mono fun e w' ⟨he,hw⟩=>?_
  subst he hw
  exact ⟨_,_,_,H,β,rfl,⟨rfl,rfl⟩,.tup rfl (fun i c v h=>by simp at h),by simpa using hs,.refl _ _,fun i hi=>rfl,by simp⟩
 ·have hb:=heap_lt h4
  have hys:(xs.mergeSort fun x y=>decide (x≤y)).length=xs.length:=List.length_mergeSort _
  refine (hsort b 0 cap xs w (fun j hj=>?_) hb hx).mono fun e w' ⟨he,n,os,hw⟩=>?_
  ·have hj':j<xs.length:=by simpa using hj
   refine ⟨?_,?_⟩
   ·simp [World.cell?,h4,h6 j hj',hj']
   ·simp [World.frozen?,h4]
  have hrg:∀ y∈xs.mergeSort (fun x y=>decide (x≤y)),IntKind.min .i64≤y∧y≤IntKind.max .i64:=fun y hy=>h7 y (List.mem_mergeSort.1 hy)
  generalize (xs.mergeSort fun x y=>decide (x≤y))=ys at hys hw hrg
  subst he hw
  exact ⟨_,_,_,H,β,rfl,⟨rfl,rfl⟩,.tup rfl (fun i c v h=>by simp at h),rewritten hs h1 h2 h3 h4 h5 hys hrg n os,.refl _ _,fun i hi=>rfl,by simp⟩
open Go.Sort in
theorem compact_spec {P:Program}{f:FuncId}(hcall:∀ as w,(callFunc f as).run P w=.ok (.enter f as) w)
  (hcomp:∀ (blk off cap:Nat)(zs:List Int)(w:World),Holds (Value.int .i64) w blk off zs.toArray→zs.length≤9223372036854775807→zs.length≤cap →
   Calls P f #[.slice (some ⟨blk,off,none⟩) zs.length cap] w fun e w'=>e=.returned (.slice (some ⟨blk,off,none⟩) (Lib.compact zs).length cap)∧∃ q,w'=putRow (Value.int .i64) (Sort.ahead w q) blk off (Lib.compact zs++List.replicate (zs.length - (Lib.compact zs).length) 0).toArray)
  (hnone:∀ (a:Option Addr)(cap:Nat)(w:World),Calls P f #[.slice a 0 cap] w fun e w'=>e=.returned (.slice a 0 cap)∧w'=w)
  (hle:∀ zs:List Int,(Lib.compact zs).length≤zs.length)(hmem:∀ zs:List Int,∀ y∈Lib.compact zs,y∈zs)
  (xs:List Int)(hx:xs.length≤9223372036854775807) :
  Spec P f [.ms 0 1 0 xs.length] [.arr 1 (xs.map encI)] (fun r' m'=>r'=.ms 0 1 0 (Lib.compact xs).length∧m'=[.arr 1 ((Lib.compact xs++List.replicate (xs.length - (Lib.compact xs).length) 0).map encI)]):=by
 refine ⟨hcall,fun H F β cargs w hs hl ha=>?_⟩
 obtain ⟨v,rfl⟩ : ∃ v,cargs = #[v]:=by
  rcases cargs with ⟨l⟩
  match l,hl with
  | [v],_=>exact ⟨v,rfl⟩
 have hv:=ha 0 _ v rfl rfl
 have hle:=hle xs
 have hmem:=hmem xs
 rcases ints_of hs rfl rfl hv with ⟨rfl,a,rfl⟩ | ⟨b,cap,capT,cells,elem,rfl,h1,h2,h3,h4,h5,h6,h7⟩
 ·refine (hnone a 0 w).mono fun e w' ⟨he,hw⟩=>?_
  subst he hw
  obtain ⟨x,hβ⟩ : ∃ x,β[0]? = some x:=⟨_,List.getElem?_eq_getElem (by rw [hs.hl]; simp)⟩
  have h0:Lib.compact ([]:List Int)=[]:=List.length_eq_zero_iff.1 (by simpa using hle)
  exact ⟨_,_,_,H,β,rfl,⟨rfl,rfl⟩,by rw [h0]; exact .ms0 hβ,by rw [h0]; simpa using hs,.refl _ _,fun i hi=>rfl,by simp⟩
 ·have hb:=heap_lt h4
  refine (hcomp b 0 cap xs w (fun j hj=>?_) hx h1).mono fun e w' ⟨he,q,hw⟩=>?_
  ·have hj':j<xs.length:=by simpa using hj
   refine ⟨?_,?_⟩
   ·simp [World.cell?,h4,h6 j hj',hj']
   ·simp [World.frozen?,h4]
  have hg:w'=grow w' #[]:=by simp [grow]
  rw [hg,hw]
  subst he
  refine ⟨_,_,_,H,β,rfl,⟨rfl,rfl⟩,?_,rewritten (ys:=Lib.compact xs++List.replicate (xs.length - (Lib.compact xs).length) 0) hs h1 h2 h3 h4 h5 (by simp; omega) (fun y hy=>?_) q #[],.refl _ _,fun i hi=>rfl,by simp⟩
  ·have:Rep H β (.ms 0 1 0 (Lib.compact xs).length) (.slice (some ⟨b,0 * 1,none⟩) (Lib.compact xs).length cap):=.ms h3 (by omega) (by omega) (by unfold BIG; omega)
   simpa using this
  ·rcases List.mem_append.1 hy with hy | hy
   ·exact h7 y (hmem y hy)
   ·obtain rfl:=(List.mem_replicate.1 hy).2
    decide
theorem Sat.fresh {H:Hp}{F:Fr}{β:Bt}{mem:List Ent}{w w':World}(h:Sat H F β mem w)(hb:Below w.heap.size w w'){g cap:Nat}{cells:Array Value}{elem:TypeId}{rows:List (List AV)}{es:Nat}(hge:w.heap.size≤g)(hg:w'.heap[g]? = some (.cells cells elem (0,0)))
  (h3:cells.size=cap * es)(h4:rows.length≤cap)(h5:∀ r∈rows,r.length=es)(h6:∀ r∈rows,∀ c∈r,c.isCell=true)
  (h7:∀ (i:Nat)(r:List AV)(j:Nat)(c:AV),rows[i]? = some r→r[j]? = some c→∃ v,cells[i * es+j]? = some v∧Rep H β c v) :
  Sat H F (β++[some (g,es,cap)]) (mem++[.arr es rows]) w':=by
 have hw:Sat H F β mem w':=h.more hb.block hb.size ⟨hb.os,hb.tape,hb.output⟩
 have hB:=BExt.append β [some (g,es,cap)]
 have hn:H g=none∧F g=none:=by
  constructor
  ·cases e:H g with
   | none=>rfl
   | some o=>exact absurd (heap_lt (h.hH _ _ e)) (by omega)
  ·cases e:F g with
   | none=>rfl
   | some o=>exact absurd (heap_lt (h.hF _ _ e)) (by omega)
 have old:∀ (i:Nat)(e:Ent),(mem++[Ent.arr es rows])[i]? = some e→(i<mem.length∧mem[i]? = some e)∨(i=mem.length∧e=.arr es rows):=by
  intro i e hi
  rw [List.getElem?_append] at hi
  split at hi
  ·exact .inl ⟨by assumption,hi⟩
  ·rename_i hlt
   have:i - mem.length=0:=by
    have:=(List.getElem?_eq_some_iff.1 hi).1; simp at this; omega
   rw [this] at hi; simp at hi
   exact .inr ⟨by omega,hi.symm⟩
 have oldβ:∀ i x,(β++[some (g,es,cap)])[i]? = some x→(i<mem.length→β[i]? = some x)∧(i=mem.length→x=some (g,es,cap)):=by
  intro i x hi
  rw [← h.hl]
  constructor
  ·intro hlt; rw [List.getElem?_append_left hlt] at hi; exact hi
  ·intro he; subst he; simp at hi; exact hi.symm
 have apart':∀ (i:Nat) e x,mem[i]? = some e→e.live=true→β[i]? = some (some x)→x.1≠g:=fun i e x hi he hx hxb=>by
  have:=(h.ent i e _ hi hx).lt (b:=x.1) (es:=x.2.1) (cap:=x.2.2) he
  omega
 refine { hH:=hw.hH,hF:=hw.hF,sm:=hw.sm,hl:=by simp [h.hl],ent:=fun i e x hi hx=>?_,apart:=fun i e x hi he hx=>?_,inj:=fun i j e e' x y hi he hj he' hx hy hxy=>?_ }
 ·rcases old i e hi with ⟨hlt,hi'⟩ | ⟨hlt,rfl⟩
  ·have hx':=(oldβ i x hx).1 hlt
   exact (hw.ent i e x hi' hx').mono (HExt.refl _) hB fun _ _ _ _ _=>rfl
  ·obtain rfl:=(oldβ i x hx).2 hlt
   refine ⟨rfl,cells,elem,hg,h3,h4,h5,h6,fun i r j c hr hc=>?_⟩
   obtain ⟨v,hv,hrep⟩:=h7 i r j c hr hc
   exact ⟨v,hv,hrep.mono (HExt.refl _) hB⟩
 ·rcases old i e hi with ⟨hlt,hi'⟩ | ⟨hlt,rfl⟩
  ·exact hw.apart i e x hi' he ((oldβ i _ hx).1 hlt)
  ·have:=(oldβ i _ hx).2 hlt
   cases this
   exact hn
 ·rcases old i e hi with ⟨hlt,hi'⟩ | ⟨hlt,rfl⟩ <;> rcases old j e' hj with ⟨hlt',hj'⟩ | ⟨hlt',rfl⟩
  ·exact h.inj i j e e' x y hi' he hj' he' ((oldβ i _ hx).1 hlt) ((oldβ j _ hy).1 hlt') hxy
  ·have:=(oldβ j _ hy).2 hlt'
   cases this
   exact absurd hxy (apart' i e x hi' he ((oldβ i _ hx).1 hlt))
  ·have:=(oldβ i _ hx).2 hlt
   cases this
   exact absurd hxy.symm (apart' j e' y hj' he' ((oldβ j _ hy).1 hlt'))
  ·omega
theorem ints_at {H:Hp}{F:Fr}{β:Bt}{mem:List Ent}{w:World}(h:Sat H F β mem w){i:Nat}{xs:List Int}{v:Value}{k:Nat}(hi:mem[i]? = some (.arr 1 (xs.map encI)))(hv:Rep H β (.ms i 1 0 k) v) :
  (k=0∧∃ a,v=.slice a 0 0)∨∃ b cap,v=.slice (some ⟨b,0,none⟩) k cap∧k≤BIG∧∀ (j:Nat)(hj:j<xs.length),w.cell? ⟨b,0+j,none⟩ = some (.int .i64 xs[j])∧IntKind.min .i64≤xs[j]∧xs[j]≤IntKind.max .i64:=by
 cases hv with
 | ms hβ hc hl hb =>
  rename_i b capT cap
  right
  obtain ⟨h1,cells,elem,h2,h3,h4,h5,h6,h7⟩:=h.ent i _ _ hi hβ
  refine ⟨b,cap,by simp,hb,fun j hj=>?_⟩
  obtain ⟨x,hx,hr⟩:=h7 j (encI xs[j]) 0 (.int .i64 xs[j]) (by simp [hj]) rfl
  cases hr with
  | int hrg =>
   refine ⟨?_,hrg⟩
   simp only [World.cell?,h2]
   simpa using hx
 | ms0 hβ=>exact .inl ⟨rfl,_,rfl⟩
theorem clone_spec {P:Program}{f:FuncId}{ty:TypeId}(hcall:∀ as w,(callFunc f as).run P w=.ok (.enter f as) w)
  (hclone:∀ (b off n c:Nat)(zs:List Int)(w:World),n≤zs.length→n * 8≤140737488355328→(∀ j,j<zs.length→w.cell? ⟨b,off+j,none⟩ = some (.int .i64 (zs.getD j 0))) →
   Calls P f #[.slice (some ⟨b,off,none⟩) n c] w fun e w'=>∃ v',e=.returned v'∧w'.ownsRow w.heap.size ty 1 v' n ((zs.take n).map (Value.int .i64))∧v'≠.slice none 0 0∧Below w.heap.size w w')
  (hnil:∀ (n c:Nat)(w:World),Calls P f #[.slice none n c] w fun e w'=>e=.returned (.slice none 0 0)∧w'=w)
  (hzero:∀ (a:Addr)(c:Nat)(w:World),Calls P f #[.slice (some a) 0 c] w fun e w'=>∃ v',e=.returned v'∧w'.ownsRow w.heap.size ty 1 v' 0 []∧v'≠.slice none 0 0∧Below w.heap.size w w')
  (xs:List Int)(k:Nat)(hk:k≤xs.length)(hk8:k * 8≤140737488355328) :
  Spec P f [.ms 0 1 0 k] [.arr 1 (xs.map encI)] (fun r' m'=>r'=.ms 1 1 0 k∧m'=[.arr 1 (xs.map encI),.arr 1 ((xs.take k).map encI)]):=by
 refine ⟨hcall,fun H F β cargs w hs hl ha=>?_⟩
 obtain ⟨v,rfl⟩ : ∃ v,cargs = #[v]:=by
  rcases cargs with ⟨l⟩
  match l,hl with
  | [v],_=>exact ⟨v,rfl⟩
 have hv:=ha 0 _ v rfl rfl
 have hβl:β.length=1:=hs.hl
 have hβ1:∀ x,(β++[x])[1]? = some x:=fun x=>by rw [List.getElem?_append_right (by omega),hβl]; rfl
 have hβ0:∀ x i,i<1→(β++[x])[i]? = β[i]?:=fun x i hi=>List.getElem?_append_left (by omega)
 have fin:∀ (e:Ending)(w':World),k * 1=k→(∃ v',e=.returned v'∧w'.ownsRow w.heap.size ty 1 v' k ((xs.take k).map (Value.int .i64))∧v'≠.slice none 0 0∧Below w.heap.size w w')→(∀ x∈xs.take k,IntKind.min .i64≤x∧x≤IntKind.max .i64) →
   ∃ v r m' H' β',e=.returned v∧(r=.ms 1 1 0 k∧m'=[.arr 1 (xs.map encI),.arr 1 ((xs.take k).map encI)])∧Rep H' β' r v∧Sat H' F β' m' w'∧HX F H H'∧BEq0 [Ent.arr 1 (xs.map encI)].length β β'∧[Ent.arr 1 (xs.map encI)].length≤m'.length:=by
  intro e w' _ ⟨v',he,ho,hne,hbw⟩ hrg
  obtain ⟨o1,o2⟩:=ho
  rcases o2 with ⟨o2,_⟩ | ⟨g,cap,cur,o2,o3,o4,o5,o6,o7,o8⟩
  ·exact absurd o2 hne
  subst he o2
  have hcur:∀ (j:Nat)(hj:j<(xs.take k).length),cur[j]? = some (.int .i64 (xs.take k)[j]):=fun j hj=>by
   have h1:(cur.toList.take (k * 1))[j]? = some (.int .i64 (xs.take k)[j]):=by rw [o8]; simp only [List.getElem?_map,List.getElem?_eq_getElem hj]; rfl
   rw [List.getElem?_take] at h1
   split at h1
   ·simpa using h1
   ·cases h1
  refine ⟨_,_,_,H,β++[some (g,1,cap)],rfl,⟨rfl,rfl⟩,?_,hs.fresh (rows:=(xs.take k).map encI) hbw o3 o4 o7 (by simp; omega) (fun r hr=>?_) (fun r hr c hc=>?_) (fun i r j c hi hj=>?_),.refl _ _,fun i hi=>hβ0 _ i hi,by simp⟩
  ·have:Rep H (β++[some (g,1,cap)]) (.ms 1 1 0 k) (.slice (some ⟨g,0 * 1,none⟩) k cap):=.ms (hβ1 _) (by omega) o5 (by unfold BIG; omega)
   simpa using this
  ·obtain ⟨y,_,rfl⟩:=List.mem_map.1 hr
   rfl
  ·obtain ⟨y,_,rfl⟩:=List.mem_map.1 hr
   obtain rfl:c=.int .i64 y:=by simpa [encI] using hc
   rfl
  ·rw [List.getElem?_map] at hi
   obtain ⟨y,hy,rfl⟩:=Option.map_eq_some_iff.1 hi
   obtain ⟨hil,rfl⟩:=List.getElem?_eq_some_iff.1 hy
   have hj0:j=0:=by
    have:=(List.getElem?_eq_some_iff.1 hj).1
    simp [encI] at this; exact this
   subst hj0
   obtain rfl:c=.int .i64 (xs.take k)[i]:=by simpa [encI] using hj.symm
   exact ⟨_,by simpa using hcur i hil,.int (hrg _ (List.getElem_mem hil))⟩
 rcases ints_at hs rfl hv with ⟨rfl,a,rfl⟩ | ⟨b,cap,rfl,h1,h2⟩
 ·cases a with
  | none =>
   refine (hnil 0 0 w).mono fun e w' ⟨he,hw⟩=>?_
   subst he hw
   exact ⟨_,_,_,H,β++[none],rfl,⟨rfl,rfl⟩,.ms0 (hβ1 _),by simpa using hs.own_none 1,.refl _ _,fun i hi=>hβ0 _ i hi,by simp⟩
  | some a =>
   refine (hzero a 0 w).mono fun e w' h=>?_
   exact fin e w' rfl (by simpa using h) (by simp)
 ·refine (hclone b 0 k cap xs w hk hk8 fun j hj=>?_).mono fun e w' h=>?_
  ·rw [(h2 j hj).1]
   simp [hj]
  ·exact fin e w' (by omega) h fun x hx=>by
    obtain ⟨j,hj,rfl⟩:=List.getElem_of_mem (List.mem_of_mem_take hx)
    exact (h2 j hj).2
theorem Sat.first {H:Hp}{F:Fr}{β:Bt}{rows:List (List AV)}{w:World}(h:Sat H F β [.arr 1 rows] w)(k:Nat):Sat H F (β ++ β) [.dead,.arr 1 (rows.take k)] w:=by
 obtain ⟨x,rfl⟩ : ∃ x,β=[x]:=by
  have:=h.hl
  match β,this with
  | [x],_=>exact ⟨x,rfl⟩
 refine { hH:=h.hH,hF:=h.hF,sm:=h.sm,hl:=rfl,ent:=fun i e y hi hy=>?_,apart:=fun i e y hi he hy=>?_,inj:=fun i j e e' y z hi he hj he' hy hz hyz=>?_ }
 ·match i,hi,hy with
  | 0,hi,hy=>cases hi; trivial
  | 1,hi,hy =>
   cases hi
   obtain rfl:x=y:=by simpa using hy
   have h0:=h.ent 0 _ x rfl rfl
   cases x with
   | none =>
    have h1:rows=[]:=h0
    subst h1; simp [EntOk]
   | some q =>
    obtain ⟨b,es,cap⟩:=q
    obtain ⟨rfl,cells,elem,g1,g2,g3,g4,g5,g6⟩:=h0
    have hB:BExt [some (b,1,cap)] ([some (b,1,cap)]++[some (b,1,cap)]):=.append _ _
    refine ⟨rfl,cells,elem,g1,g2,by simp; omega,fun r hr=>g4 r (List.mem_of_mem_take hr),fun r hr=>g5 r (List.mem_of_mem_take hr),fun i r j c hr hc=>?_⟩
    rw [List.getElem?_take] at hr
    split at hr
    ·obtain ⟨v,q1,q2⟩:=g6 i r j c hr hc
     exact ⟨v,q1,q2.mono (HExt.refl _) hB⟩
    ·cases hr
  | i+2,hi,hy=>simp at hi
 ·match i,hi,hy with
  | 0,hi,hy=>cases hi; cases he
  | 1,hi,hy =>
   have:[x][0]? = some (some y):=by simpa using hy
   exact h.apart 0 _ y rfl rfl this
  | i+2,hi,hy=>simp at hi
 ·match i,j,hi,hj with
  | 0,_,hi,_=>cases hi; cases he
  | _,0,_,hj=>cases hj; cases he'
  | 1,1,_,_=>rfl
  | i+2,_,hi,_=>simp at hi
  | _,j+2,_,hj=>simp at hj
theorem compact_new {P:Program}{f:FuncId}{xs ys zs:List Int}(h:Spec P f [.ms 0 1 0 xs.length] [.arr 1 (xs.map encI)] (fun r' m'=>r'=.ms 0 1 0 ys.length∧m'=[.arr 1 ((ys++zs).map encI)])) :
  Spec P f [.ms 0 1 0 xs.length] [.arr 1 (xs.map encI)] (fun r' m'=>r'=.ms 1 1 0 ys.length∧m'=[.dead,.arr 1 (ys.map encI)]):=by
 refine h.post fun F H' β β' r m v w' ⟨h1,h2⟩ hs hr h0 hβ hm=>?_
 subst h1 h2
 have hl:β'.length=1:=hs.hl
 have:=hs.first ys.length
 rw [show (List.map encI (ys++zs)).take ys.length=ys.map encI by simp] at this
 have g1:∀ x,β'[0]? = some x→(β' ++ β')[1]? = some x:=fun x hx=>by rw [List.getElem?_append_right (by omega),hl]; exact hx
 have g2:∀ n,Rep H' β' (.ms 0 1 0 n) v→Rep H' (β' ++ β') (.ms 1 1 0 n) v:=fun n hr=>by
  cases hr with
  | ms hb hc hn hg=>exact .ms (g1 _ hb) hc hn hg
  | ms0 hb=>exact .ms0 (g1 _ hb)
 refine ⟨_,_,β' ++ β',⟨rfl,rfl⟩,g2 _ hr,this,fun i hi=>?_,by simp⟩
 ·rw [← h0 i hi]
  have:i<β'.length:=by rw [hl]; exact hi
  exact List.getElem?_append_left this
theorem sortE_ok {P:Program}{f:FuncId}(G:List Int→Option (List Int))(h:∀ xs ys,G xs=some ys→Spec P f [.ms 0 1 0 xs.length] [.arr 1 (xs.map encI)] (fun r' m'=>r'=.tup []∧m'=[.arr 1 (ys.map encI)])) :
  EOk P ⟨f,[.own 0],[.arr (.int .i64) .no],.tup [],[.arr (.int .i64) .no],G⟩:=by
 refine show TEok P _ from ⟨by kernel_rfl,fun d r hd=>?_⟩
 have h1:=h d r hd
 have e1:inM ⟨f,[.own 0],[.arr (.int .i64) .no],.tup [],[.arr (.int .i64) .no],G⟩ d=[.arr 1 (d.map encI)]:=endM_arr1 (.int .i64) d
 rw [e1]
 have e2:endM 1 1 [.arr (.int .i64) r .no]=[.arr 1 (r.map encI)]:=endM_arr1 (.int .i64) r
 refine ⟨h1.1,fun H F β cargs w hs hl ha=>(h1.2 H F β cargs w hs hl ha).mono fun e w' ⟨v,r',m',H',β',g1,g2,g3⟩=>⟨v,r',m',H',β',g1,⟨g2.1,g2.2.trans e2.symm⟩,g3⟩⟩
theorem endM_arr2 (t:Ty)(xs ys:List (TV t)):endM 1 1 [.arr t xs .no,.arr t ys .no]=[.arr t.sz (xs.map (encT t)),.arr t.sz (ys.map (encT t))]:=by
 simp only [endM,rootsL,rootL,osOf]
 letI pin0:Pin:={ nin:=0,ini:=[],len:=rfl }
 have h:=layRs_no (1+(2 - 1)) xs
 have h2:=layRs_no (1+(2 - 1)) ys
 simp [h,h2]
theorem endM_arrd (t:Ty)(ys:List (TV t)):endM 1 1 [.dead,.arr t ys .no]=[.dead,.arr t.sz (ys.map (encT t))]:=by
 simp only [endM,rootsL,rootL,osOf]
 letI pin0:Pin:={ nin:=0,ini:=[],len:=rfl }
 have h2:=layRs_no (1+(2 - 1)) ys
 simp [h2]
theorem compactE_ok {P:Program}{f:FuncId}(G:List Int→Option (List Int))(h:∀ xs ys,G xs=some ys→Spec P f [.ms 0 1 0 xs.length] [.arr 1 (xs.map encI)] (fun r' m'=>r'=.ms 1 1 0 ys.length∧m'=[.dead,.arr 1 (ys.map encI)])) :
  EOk P ⟨f,[.own 0],[.arr (.int .i64) .no],.own 1,[.dead,.arr (.int .i64) .no],G⟩:=by
 refine show TEok P _ from ⟨by kernel_rfl,fun d r hd=>?_⟩
 have h1:=h d r hd
 have e1:inM ⟨f,[.own 0],[.arr (.int .i64) .no],.own 1,[.dead,.arr (.int .i64) .no],G⟩ d=[.arr 1 (d.map encI)]:=endM_arr1 (.int .i64) d
 rw [e1]
 have e2:endM 1 1 [.dead,.arr (.int .i64) r .no]=[.dead,.arr 1 (r.map encI)]:=endM_arrd (.int .i64) r
 refine ⟨h1.1,fun H F β cargs w hs hl ha=>(h1.2 H F β cargs w hs hl ha).mono fun e w' ⟨v,r',m',H',β',g1,g2,g3⟩=>⟨v,r',m',H',β',g1,⟨g2.1,g2.2.trans e2.symm⟩,g3⟩⟩
theorem cloneE_ok {P:Program}{f:FuncId}(G:List Int→Option (List Int×List Int))(h:∀ xs ys,G xs=some ys→Spec P f [.ms 0 1 0 xs.length] [.arr 1 (xs.map encI)] (fun r' m'=>r'=.ms 1 1 0 ys.2.length∧m'=[.arr 1 (ys.1.map encI),.arr 1 (ys.2.map encI)])) :
  EOk P ⟨f,[.own 0],[.arr (.int .i64) .no],.own 1,[.arr (.int .i64) .no,.arr (.int .i64) .no],G⟩:=by
 refine show TEok P _ from ⟨by kernel_rfl,fun d r hd=>?_⟩
 have h1:=h d r hd
 have e1:inM ⟨f,[.own 0],[.arr (.int .i64) .no],.own 1,[.arr (.int .i64) .no,.arr (.int .i64) .no],G⟩ d=[.arr 1 (d.map encI)]:=endM_arr1 (.int .i64) d
 rw [e1]
 have e2:endM 1 1 [.arr (.int .i64) r.1 .no,.arr (.int .i64) r.2 .no]=[.arr 1 (r.1.map encI),.arr 1 (r.2.map encI)]:=endM_arr2 (.int .i64) r.1 r.2
 refine ⟨h1.1,fun H F β cargs w hs hl ha=>(h1.2 H F β cargs w hs hl ha).mono fun e w' ⟨v,r',m',H',β',g1,g2,g3⟩=>⟨v,r',m',H',β',g1,⟨g2.1,g2.2.trans e2.symm⟩,g3⟩⟩
theorem compact_length_le (zs:List Int):(Lib.compact zs).length≤zs.length:=by
 unfold Lib.compact Lib.compactUpTo
 rw [List.length_map]
 exact Nat.le_trans (List.length_filter_le _ _) (by simp)
theorem compact_mem (zs:List Int):∀ y∈Lib.compact zs,y∈zs:=by
 intro y hy
 unfold Lib.compact Lib.compactUpTo at hy
 obtain ⟨j,hj,rfl⟩:=List.mem_map.1 hy
 have h1:=List.mem_range.1 (List.mem_filter.1 hj).1
 have:zs.toArray[j]! = zs[j]:=by simp [h1]
 rw [this]
 exact List.getElem_mem h1
end Go.Fw
