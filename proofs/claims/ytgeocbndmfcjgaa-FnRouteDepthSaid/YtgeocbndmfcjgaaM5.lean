/- A part of the proof: what stands for the program, its functions, and what they come to. -/
import Derived.Test.YtgeocbndmfcjgaaM4
import Derived.ProofKit
import Derived.Test.YtgeocbndmfcjgaaM2
set_option linter.all false
namespace Go.Fw
open Go
def AllOk (P:Program):List TE→Prop
 | []=>True
 | e :: l=>EOk P e∧AllOk P l
theorem AllOk.mem {P:Program} : ∀ {l:List TE},AllOk P l→∀ e∈l,EOk P e
 | [],_,e,h=>by cases h
 | x :: l,h,e,he=>by
  rcases List.mem_cons.1 he with rfl | he
  ·exact h.1
  ·exact AllOk.mem h.2 e he
theorem EOk.pure {P:Program}{Φ : List TE}{tys:List (Nat×An)}{f:FuncId}{c:CC}{np:Nat}{rs:List RV}{ash:List Sh}{rsh:Sh}{F:DatL (ash++[].map RK.sh)→Option (DatL (rsh :: [].map RK.sh))}
  (hf:FnOk P f c np rs)(hn:ash.length=np)(hΦ : AllOk P Φ)(ha:Sh.purL ash=true)(hr:rsh.pur=true)(hx:∀ d,execF Φ tys c rs ash [] rsh [] d=F d):EOk P ⟨f,ash,[],rsh,[],F⟩ :=
 show PEok P _ from ⟨rfl,rfl,ha,hr,fun d _ h=>execF_PS hf hn hΦ.mem ha hr ((hx d).trans h)⟩
theorem EOk.te {P:Program}{Φ : List TE}{tys:List (Nat×An)}{f:FuncId}{c:CC}{np:Nat}{rs:List RV}{ash:List Sh}{rin:List RK}{rsh:Sh}{rout:List RK}{F:DatL (ash++rin.map RK.sh)→Option (DatL (rsh :: rout.map RK.sh))}
  (hf:FnOk P f c np rs)(hn:ash.length=np)(hΦ : AllOk P Φ)(hw:wfE ⟨f,ash,rin,rsh,rout,F⟩ = true)(hne:isNil rout=false)(hx:∀ d,execF Φ tys c rs ash rin rsh rout d=F d):EOk P ⟨f,ash,rin,rsh,rout,F⟩:=by
 have:=execF_TE hf hn hΦ.mem hw hne (fun d r h=>(hx d).trans h)
 unfold EOk
 simp only [hne,Bool.and_false]
 exact this
theorem EOk.zeroP {P:Program}{f:FuncId}{ash:List Sh}{rsh:Sh}{F:DatL (ash++[].map RK.sh)→Option (DatL (rsh :: [].map RK.sh))}
  (ha:Sh.purL ash=true)(hr:rsh.pur=true)(h:∀ d,F d=none):EOk P ⟨f,ash,[],rsh,[],F⟩ :=
 show PEok P _ from ⟨rfl,rfl,ha,hr,fun d r h'=>by have h2:F d=some r:=h'; rw [h d] at h2; cases h2⟩
theorem EOk.zeroT {P:Program}{f:FuncId}{ash:List Sh}{rin:List RK}{rsh:Sh}{rout:List RK}{F:DatL (ash++rin.map RK.sh)→Option (DatL (rsh :: rout.map RK.sh))}
  (hw:wfE ⟨f,ash,rin,rsh,rout,F⟩ = true)(hne:isNil rout=false)(h:∀ d,F d=none):EOk P ⟨f,ash,rin,rsh,rout,F⟩:=by
 unfold EOk
 simp only [hne,Bool.and_false]
 exact ⟨hw,fun d r h'=>by have h2:F d=some r:=h'; rw [h d] at h2; cases h2⟩
theorem EOk.limP {P:Program}{f:FuncId}{ash:List Sh}{rsh:Sh}{G:Nat→DatL (ash++[].map RK.sh)→Option (DatL (rsh :: [].map RK.sh))}
  (h:∀ n,EOk P ⟨f,ash,[],rsh,[],G n⟩):EOk P ⟨f,ash,[],rsh,[],limF G⟩:=by
 have h0:PEok P _:=h 0
 refine show PEok P _ from ⟨rfl,rfl,h0.ash,h0.rsh,fun d r h'=>?_⟩
 obtain ⟨n,hn⟩:=limF_some h'
 have hn':PEok P _:=h n
 exact hn'.ok d r hn
theorem EOk.limT {P:Program}{f:FuncId}{ash:List Sh}{rin:List RK}{rsh:Sh}{rout:List RK}{G:Nat→DatL (ash++rin.map RK.sh)→Option (DatL (rsh :: rout.map RK.sh))}
  (hne:isNil rout=false)(h:∀ n,EOk P ⟨f,ash,rin,rsh,rout,G n⟩):EOk P ⟨f,ash,rin,rsh,rout,limF G⟩:=by
 unfold EOk at h ⊢
 simp only [hne,Bool.and_false] at h ⊢
 refine ⟨(h 0).wf,fun d r h'=>?_⟩
 obtain ⟨n,hn⟩:=limF_some h'
 exact (h n).ok d r hn
end Go.Fw
namespace Go.Fw
open Go Go.RowKit
def heapOf (W:World):Hp:=fun b=>W.heap[b]?
theorem PS.calls {P:Program}{f:FuncId}{args:List AV}{r:AV}(h:PS P f args r)(W:World)(cargs:Array Value)(hl:cargs.size=args.length)
  (ha:∀ (i:Nat) v x,args[i]? = some v→cargs[i]? = some x→Rep (heapOf W) [] v x) :
  Calls P f cargs W fun e W'=>∃ v,e=.returned v∧Below W.heap.size W W'∧∃ H',Rep H' [] r v:=by
 have hs:Sat (heapOf W) ⟨fun _=>none,W⟩ [] [] W :=
  {hH:=fun b o hb=>hb,hF:=(fun b o hb=>by cases hb),sm:=⟨rfl,rfl,rfl,Nat.le_refl _⟩,hl:=rfl,ent:=fun i e x hi=>by simp at hi,apart:=fun i e x hi=>by simp at hi,
   inj:=fun i j e e' x y hi=>by simp at hi }
 refine (h.sp.2 (heapOf W) ⟨fun _=>none,W⟩ [] cargs W hs hl ha).mono fun e w' ⟨v,r',m',H',β',h1,⟨h2,_⟩,h3,h4,h5,_⟩=>?_
 subst h2
 refine ⟨v,h1,⟨h4.sm.os,h4.sm.tape,h4.sm.output,h4.sm.size,fun k hk=>?_⟩,H',h3.pure h.pr _⟩
 have hb:heapOf W k=some W.heap[k]:=by simp [heapOf,hk]
 rw [h4.hH _ _ (h5.1 _ _ hb)]
 exact hb.symm
theorem maxLen_eq:maxLen=BIG:=by unfold maxLen BIG; rfl
def CR' (W:World)(cs:List AV)(vs:List Value):Prop :=
 vs.length=cs.length∧(∀ c∈cs,c.isCell=true)∧∀ (i:Nat) c v,cs[i]? = some c→vs[i]? = some v→Rep (heapOf W) [] c v
section
variable {H:Type}{enc:TypeId×Value→H}{P:Program}{W:World}{sp:Nat→Bool}{held:Bool}
def Reads (enc:TypeId×Value→H)(P:Program)(W:World)(sp:Nat→Bool)(held:Bool)(fuel:Nat)(t:TypeId){α:Type}(e:α→List AV):Prop :=
 ∀ cs d ps,DataW.trod enc P W 0 sp held fuel t cs=some (d,ps)→∃ x,CR' W (e x) cs
theorem CR'.one {c:AV}{v:Value}(hc:c.isCell=true)(h:Rep (heapOf W) [] c v):CR' W [c] [v] :=
 ⟨rfl,by simpa using hc,fun i c' v' h1 h2=>by
  cases i with
  | zero=>simp at h1 h2; subst h1; subst h2; exact h
  | succ i=>simp at h1⟩
theorem reads_zero {t:TypeId}{α:Type}{e:α→List AV} : Reads enc P W sp held 0 t e:=fun cs d ps h=>by simp [DataW.trod] at h
theorem mapM_some {α β:Type}{f:α→Option β} : ∀ {l:List α}{r:List β},l.mapM f=some r→r.length=l.length∧∀ (i:Nat) x,l[i]? = some x→∃ y,f x=some y∧r[i]? = some y
 | [],r,h=>by simp at h; subst h; simp
 | a :: l,r,h=>by
  simp only [List.mapM_cons,Option.bind_eq_bind,Option.bind_eq_some_iff,Option.pure_def,Option.some.injEq] at h
  obtain ⟨y,hy,ys,hys,rfl⟩:=h
  obtain ⟨g1,g2⟩:=mapM_some hys
  refine ⟨by simp [g1],fun i x hi=>?_⟩
  cases i with
  | zero=>simp at hi; subst hi; exact ⟨y,hy,rfl⟩
  | succ i=>simpa using g2 i x (by simpa using hi)
theorem exists_listA {α:Type}{p:Nat→α→Prop} : ∀ (n:Nat),(∀ j,j<n→∃ v,p j v)→∃ vs:List α,vs.length=n∧∀ (j:Nat) v,vs[j]? = some v→p j v
 | 0,_=>⟨[],rfl,fun j v h=>by simp at h⟩
 | n+1,h=>by
  obtain ⟨vs,h1,h2⟩:=exists_listA n fun j hj=>h j (by omega)
  obtain ⟨x,hx⟩:=h n (by omega)
  refine ⟨vs++[x],by simp [h1],fun j v hj=>?_⟩
  rcases Nat.lt_trichotomy j n with hlt | rfl | hgt
  ·rw [List.getElem?_append_left (by omega)] at hj; exact h2 j v hj
  ·rw [List.getElem?_append_right (by omega),h1] at hj
   simp at hj; subst hj; exact hx
  ·rw [List.getElem?_eq_none (by simp; omega)] at hj; cases hj
theorem cells_get {a:Addr}{n:Nat}{vs:List Value}(h:W.cells? 0 a n=some vs):vs.length=n∧∀ j,j<n→∃ v,vs[j]? = some v∧W.cell? (a.add j)=some v:=by
 unfold World.cells? at h
 rw [if_pos (Nat.zero_le _)] at h
 obtain ⟨g1,g2⟩:=mapM_some h
 refine ⟨by simpa using g1,fun j hj=>?_⟩
 obtain ⟨y,h1,h2⟩:=g2 j j (by simp [hj])
 exact ⟨y,h2,h1⟩
theorem cell_block {a:Addr}{v:Value}(h:W.cell? a=some v):a.spot=none∧∃ c elem fz,W.heap[a.block]? = some (.cells c elem fz)∧c[a.off]? = some v:=by
 unfold World.cell? at h
 split at h
 ·rename_i c elem fz hb
  split at h
  ·cases h
  ·rename_i hs
   exact ⟨by simpa using hs,c,elem,fz,hb,h⟩
 ·cases h
theorem reads_slice {t te:TypeId}{α:Type}{e:α→List AV}{es:Nat}(ht:P.underlying t=some (.slice te))(hes:P.cellsOf te=es)(hlen:∀ x,(e x).length=es)(hpos:0<es)(fuel:Nat)
  (he:Reads enc P W sp held fuel te e):Reads enc P W sp held (fuel+1) t (fun xs:List α=>[.sl es (xs.map e)]):=by
 intro cs d ps h
 unfold DataW.trod at h
 rw [ht] at h
 match cs,h with
 | [.slice none 0 0],h =>
  exact ⟨[],.one rfl (.sl 0 0 #[] (fun _ _=>undef) rfl (Nat.le_refl _) (Nat.zero_le _) (by simp) (by simp) (by simp) (by simp) (by simp))⟩
 | [.slice (some a) len cap],h =>
  simp only [hes] at h
  split at h
  ·rename_i hb
   rw [Option.bind_eq_some_iff] at h
   obtain ⟨elems,h1,h2⟩:=h
   obtain ⟨g1,g2⟩:=mapM_some h1
   have el:∀ i,i<len→∃ x vs,W.cells? 0 (a.add (i * es)) es=some vs∧CR' W (e x) vs:=by
    intro i hi
    obtain ⟨y,hy,_⟩:=g2 i i (by simp [hi])
    rw [Option.bind_eq_some_iff] at hy
    obtain ⟨vs,hv,hr⟩:=hy
    obtain ⟨x,hx⟩:=he vs y.1 y.2 hr
    exact ⟨x,vs,hv,hx⟩
   obtain ⟨hb0,hlc,hcm⟩:=hb
   obtain ⟨xs,x1,x2⟩:=exists_listA (p:=fun i x=>∃ vs,W.cells? 0 (a.add (i * es)) es=some vs∧CR' W (e x) vs) len el
   refine ⟨xs,.one rfl ?_⟩
   have hlenBIG:len≤BIG:=by rw [← maxLen_eq]; omega
   by_cases h0:len=0
   ·subst h0
    obtain rfl:xs=[]:=List.length_eq_zero_iff.1 x1
    exact .sl 0 0 #[] (fun _ _=>undef) rfl (Nat.zero_le _) (Nat.zero_le _) (by simp) (by simp) (by simp) (by simp) (by simp)
   ·obtain ⟨x0,vs0,c0,_⟩:=el 0 (by omega)
    obtain ⟨_,cg⟩:=cells_get c0
    obtain ⟨v0,_,hc0⟩:=cg 0 hpos
    have ha0:(a.add (0 * es)).add 0=a:=by simp [Addr.add]
    rw [ha0] at hc0
    obtain ⟨hspot,c,elem,fz,hblk,_⟩:=cell_block hc0
    obtain ⟨b,o,sp'⟩:=a
    simp only at hspot hblk
    subst hspot
    have cell:∀ i,i<len→∀ x,xs[i]? = some x→∀ j,j<es→∃ v,c[o+i * es+j]? = some v∧∀ cc,(e x)[j]? = some cc→Rep (heapOf W) [] cc v:=by
     intro i hi x hx j hj
     obtain ⟨vs,hv,hcr⟩:=x2 i x hx
     obtain ⟨_,cg⟩:=cells_get hv
     obtain ⟨v,hvj,hcell⟩:=cg j hj
     rw [addr_add,addr_add] at hcell
     obtain ⟨_,c',elem',fz',hb',hcv⟩:=cell_block hcell
     simp only at hb' hcv
     rw [hblk] at hb'
     cases hb'
     exact ⟨v,hcv,fun cc hcc=>hcr.2.2 j cc v hcc hvj⟩
    refine .sl b o c (fun i j=>c.getD (o+i * es+j) undef) (by simp [x1]) hlc hlenBIG (fun r hr=>?_) (fun _=>⟨rfl,elem,fz,hblk⟩) (fun i j hi hj=>?_) (fun r hr cc hcc=>?_) (fun i r j cc hi hj=>?_)
    ·obtain ⟨x,_,rfl⟩:=List.mem_map.1 hr; exact hlen x
    ·simp only [List.length_map] at hi
     obtain ⟨v,hv,_⟩:=cell i (by omega) xs[i] (List.getElem?_eq_getElem hi) j hj
     simp [hv]
    ·obtain ⟨x,hx,rfl⟩:=List.mem_map.1 hr
     obtain ⟨i,hi⟩:=List.getElem?_of_mem hx
     obtain ⟨vs,_,hcr⟩:=x2 i x hi
     exact hcr.2.1 cc hcc
    ·rw [List.getElem?_map,Option.map_eq_some_iff] at hi
     obtain ⟨x,hx,rfl⟩:=hi
     have hilt:=(List.getElem?_eq_some_iff.1 hx).1
     have hjlt:=(List.getElem?_eq_some_iff.1 hj).1
     rw [hlen] at hjlt
     obtain ⟨v,hv,hrep⟩:=cell i (by omega) x hx j hjlt
     simp only [Array.getD_eq_getD_getElem?,hv,Option.getD_some]
     exact hrep cc hj
  ·cases h
end
def encY (n:Int):List AV:=[.int .u8 n]
theorem reads_u8 {H:Type}{enc:TypeId×Value→H}{P:Program}{W:World}{sp:Nat→Bool}{held:Bool}{t:TypeId}(ht:P.underlying t=some (.int .u8))(fuel:Nat):Reads enc P W sp held fuel t encY:=by
 intro cs d ps h
 cases fuel with
 | zero=>simp [DataW.trod] at h
 | succ fuel =>
  unfold DataW.trod at h
  rw [ht] at h
  match cs,h with
  | [.int k n],h =>
   simp only [] at h
   split at h
   ·rename_i hs
    obtain ⟨rfl,hs⟩:=hs
    refine ⟨n,.one rfl (.int ?_)⟩
    simpa [Lit.wf] using hs
   ·cases h
theorem rep_bytes {H:Hp}{xs:List Int}{v:Value}(h:Rep H [] (.sl 1 (xs.map encY)) v):∀ x∈xs,0≤x∧x≤255:=by
 intro x hx
 obtain ⟨i,hi,rfl⟩:=List.getElem_of_mem hx
 cases h with
 | sl b o cells f hlen hcap hbig hes hblk hc hcell hh =>
  have:=hh i (encY xs[i]) 0 (.int .u8 xs[i]) (by simp [hi]) rfl
  generalize f i 0=w at this
  cases this with
  | int h =>
   have h1:IntKind.min .u8=0:=rfl
   have h2:IntKind.max .u8=255:=rfl
   rw [h1,h2] at h
   exact h
end Go.Fw
namespace Go.Fw
open Go
set_option maxRecDepth 10000
def c4:CC :=
 .seq (.reg [0] [O 2 (.mv (.c (.bool false)))])
 (.seq (.seq (.reg [0,12] [O 10 (.mv (.t 0)),O 11 (.lenl (.t 10)),O 12 (.bin .gtr (.t 11) (.c (.int .i64 1048576)))])
 (.cond (.t 12) (.seq (.reg [2] [O 2 (.mv (.c (.bool true)))])
 (.ret)) (.skip)))
 (.seq (.reg [3] [O 13 (.mv (.t 0)),O 14 (.call 15 [(.t 13)]),O 3 (.mv (.t 14))])
 (.seq (.reg [3,4] [O 15 (.mv (.t 3)),O 16 (.call 16 [(.t 15)]),O 4 (.mv (.t 16))])
 (.seq (.seq (.reg [3,4,20] [O 17 (.mv (.t 4)),O 18 (.mv (.t 3)),O 19 (.call 17 [(.t 18)]),O 20 (.bin .neq (.t 17) (.t 19))])
 (.cond (.t 20) (.seq (.reg [2] [O 2 (.mv (.c (.bool false)))])
 (.ret)) (.skip)))
 (.seq (.seq (.reg [3,4,5] [O 5 (.mv (.c (.int .i64 0)))])
 (.block 0 (.lp true 0 [5] [3,4] (.seq (.seq (.reg [3,4,5,24] [O 21 (.mv (.t 5)),O 22 (.mv (.t 3)),O 23 (.lenl (.t 22)),O 24 (.bin .lss (.t 21) (.t 23))])
 (.cond (.t 24) (.skip) (.exit 0)))
 (.seq (.block 1 (.seq (.reg [3,4,5,6] [O 6 (.mv (.c (.int .i64 0)))])
 (.block 2 (.lp true 2 [6] [3,4,5] (.seq (.seq (.reg [3,4,5,6,34] [O 27 (.mv (.t 6)),O 28 (.mv (.t 3)),O 29 (.mv (.t 5)),O 30 (.ia 6 (.t 28) (.t 29)),O 31 (.fa 4 (.t 30)),O 32 (.load none (.t 31)),O 33 (.lenl (.t 32)),O 34 (.bin .lss (.t 27) (.t 33))])
 (.cond (.t 34) (.skip) (.exit 2)))
 (.seq (.block 3 (.seq (.reg [3,4,5,6,57] [O 37 (.mv (.t 3)),O 38 (.mv (.t 5)),O 39 (.ia 6 (.t 37) (.t 38)),O 40 (.fa 4 (.t 39)),O 41 (.load none (.t 40)),O 42 (.mv (.t 6)),O 43 (.ia 1 (.t 41) (.t 42)),O 44 (.load none (.t 43)),O 45 (.bin .lss (.t 44) (.c (.int .i64 0))),O 46 (.mv (.t 45)),.mk (some 47) (some (46,false)) (.mv (.t 3)),.mk (some 48) (some (46,false)) (.mv (.t 5)),.mk (some 49) (some (46,false)) (.ia 6 (.t 47) (.t 48)),.mk (some 50) (some (46,false)) (.fa 4 (.t 49)),.mk (some 51) (some (46,false)) (.load none (.t 50)),.mk (some 52) (some (46,false)) (.mv (.t 6)),.mk (some 53) (some (46,false)) (.ia 1 (.t 51) (.t 52)),.mk (some 54) (some (46,false)) (.load none (.t 53)),.mk (some 55) (some (46,false)) (.mv (.t 5)),.mk (some 56) (some (46,false)) (.bin .geq (.t 54) (.t 55)),O 57 (.pick (.t 46) (.c (.bool true)) (.t 56))])
 (.cond (.t 57) (.seq (.reg [2] [O 2 (.mv (.c (.bool true)))])
 (.ret)) (.skip))))
 (.reg [3,4,5,6] [O 35 (.mv (.t 6)),O 36 (.bin .add (.t 35) (.c (.int .i64 1))),O 6 (.mv (.t 36))])))))))
 (.reg [3,4,5] [O 25 (.mv (.t 5)),O 26 (.bin .add (.t 25) (.c (.int .i64 1))),O 5 (.mv (.t 26))]))))))
 (.seq (.reg [3,4,7] [O 58 (.bsl0),O 7 (.mv (.t 58))])
 (.seq (.reg [3,4,7,8] [O 8 (.mv (.c (.int .i64 0)))])
 (.seq (.block 4 (.lp false 4 [7,8] [3,4] (.seq (.seq (.reg [3,4,7,8,69] [O 59 (.mv (.t 7)),O 60 (.lenl (.t 59)),O 61 (.mv (.t 3)),O 62 (.lenl (.t 61)),O 63 (.bin .lss (.t 60) (.t 62)),O 64 (.mv (.t 63)),.mk (some 65) (some (64,true)) (.mv (.t 8)),.mk (some 66) (some (64,true)) (.mv (.t 3)),.mk (some 67) (some (64,true)) (.lenl (.t 66)),.mk (some 68) (some (64,true)) (.bin .leq (.t 65) (.t 67)),O 69 (.pick (.t 64) (.t 68) (.c (.bool false)))])
 (.cond (.t 69) (.skip) (.exit 4)))
 (.block 5 (.seq (.frz 7 0 (.reg [3,4,7,8,9] [O 70 (.mv (.t 3)),O 71 (.mv (.t 7)),O 72 (.call 18 [(.t 70),(.t 71)]),O 9 (.mv (.t 72))]))
 (.seq (.reg [3,4,7,8] [O 73 (.bsl0),O 74 (.mv (.t 7)),O 75 (.app 1 (.t 73) (.t 74)),O 76 (.mv (.t 9)),O 77 (.app 1 (.t 75) (.t 76)),O 7 (.mv (.t 77))])
 (.reg [3,4,7,8] [O 78 (.mv (.t 8)),O 79 (.bin .add (.t 78) (.c (.int .i64 1))),O 8 (.mv (.t 79))])))))))
 (.seq (.reg [2] [O 80 (.mv (.t 8)),O 81 (.mv (.t 4)),O 82 (.bin .eql (.t 80) (.t 81)),O 2 (.mv (.t 82))])
 (.ret))))))))))
def cy4:List (Nat×An):=[(2,.t .bool),(10,.t (.lst (.int .u8))),(11,.t (.int .i64)),(12,.t .bool),(13,.t (.lst (.int .u8))),(14,.t (.lst (.nm .Stp))),(3,.t (.lst (.nm .Stp))),(15,.t (.lst (.nm .Stp))),(16,.t (.int .i64)),(4,.t (.int .i64)),(17,.t (.int .i64)),(18,.t (.lst (.nm .Stp))),(19,.t (.int .i64)),(20,.t .bool),(5,.t (.int .i64)),(21,.t (.int .i64)),(22,.t (.lst (.nm .Stp))),(23,.t (.int .i64)),(24,.t .bool),(6,.t (.int .i64)),(27,.t (.int .i64)),(28,.t (.lst (.nm .Stp))),(29,.t (.int .i64)),(32,.t (.lst (.int .i64))),(33,.t (.int .i64)),(34,.t .bool),(37,.t (.lst (.nm .Stp))),(38,.t (.int .i64)),(41,.t (.lst (.int .i64))),(42,.t (.int .i64)),(44,.t (.int .i64)),(45,.t .bool),(46,.t .bool),(47,.t (.lst (.nm .Stp))),(48,.t (.int .i64)),(51,.t (.lst (.int .i64))),(52,.t (.int .i64)),(54,.t (.int .i64)),(55,.t (.int .i64)),(56,.t .bool),(57,.t .bool),(35,.t (.int .i64)),(36,.t (.int .i64)),(25,.t (.int .i64)),(26,.t (.int .i64)),(58,.t (.lst (.int .i64))),(7,.t (.lst (.int .i64))),(8,.t (.int .i64)),(59,.t (.lst (.int .i64))),(60,.t (.int .i64)),(61,.t (.lst (.nm .Stp))),(62,.t (.int .i64)),(63,.t .bool),(64,.t .bool),(65,.t (.int .i64)),(66,.t (.lst (.nm .Stp))),(67,.t (.int .i64)),(68,.t .bool),(69,.t .bool),(70,.t (.lst (.nm .Stp))),(71,.t (.lst (.int .i64))),(72,.t (.lst (.int .i64))),(9,.t (.lst (.int .i64))),(73,.t (.lst (.int .i64))),(74,.t (.lst (.int .i64))),(75,.t (.lst (.int .i64))),(76,.t (.lst (.int .i64))),(77,.t (.lst (.int .i64))),(78,.t (.int .i64)),(79,.t (.int .i64)),(80,.t (.int .i64)),(81,.t (.int .i64)),(82,.t .bool)]
def c15:CC :=
 .seq (.reg [0] [O 2 (.mv (.c (.sl 6 [])))])
 (.seq (.reg [3] [O 5 (.mv (.t 0)),O 6 (.call 31 [(.t 5)]),O 3 (.mv (.t 6))])
 (.seq (.reg [3,4] [O 7 (.mv (.t 3)),O 8 (.call 32 [(.t 7)]),O 4 (.mv (.t 8))])
 (.seq (.seq (.reg [3,4,16] [O 9 (.mv (.t 4)),O 10 (.lenl (.t 9)),O 11 (.bin .gtr (.t 10) (.c (.int .i64 0))),O 12 (.mv (.t 11)),.mk (some 13) (some (12,true)) (.mv (.t 3)),.mk (some 14) (some (12,true)) (.call 33 [(.t 13),(.c (.int .i64 8))]),.mk (some 15) (some (12,true)) (.bin .eql (.t 14) (.c (.int .i64 0))),O 16 (.pick (.t 12) (.t 15) (.c (.bool false)))])
 (.jn false [] [4] (.cond (.t 16) (.seq (.reg [3,4] [O 17 (.mv (.t 4)),O 18 (.mv (.t 3)),O 19 (.call 33 [(.t 18),(.c (.int .i64 5))]),O 20 (.bin .sub (.t 19) (.c (.int .i64 1))),O 21 (.bsl 1 [(.t 20)]),O 22 (.ia 6 (.t 17) (.c (.int .i64 0))),O 23 (.fa 4 (.t 22)),.mk none none (.store 1 (.t 23) (.t 21))])
 (.reg [4] [O 24 (.mv (.t 4)),O 25 (.mv (.t 3)),O 26 (.call 33 [(.t 25),(.c (.int .i64 6))]),O 27 (.bin .sub (.t 26) (.c (.int .i64 1))),O 28 (.ia 6 (.t 24) (.c (.int .i64 0))),O 29 (.fa 0 (.t 28)),.mk none none (.store 1 (.t 29) (.t 27))])) (.skip))))
 (.seq (.reg [2] [O 30 (.mv (.t 4)),O 2 (.mv (.t 30))])
 (.ret)))))
def cy15:List (Nat×An):=[(2,.t (.lst (.nm .Stp))),(4,.t (.lst (.nm .Stp))),(16,.t .bool),(21,.t (.lst (.int .i64)))]
def c16:CC :=
 .seq (.reg [0] [O 2 (.mv (.c (.int .i64 0)))])
 (.seq (.reg [0,3] [O 9 (.mv (.t 0)),O 10 (.lenl (.t 9)),O 11 (.mks 1 [(.int .i64 0)] (.t 10)),O 3 (.mv (.t 11))])
 (.seq (.reg [0,3,4] [O 4 (.mv (.c (.int .i64 0)))])
 (.seq (.seq (.reg [3,4,12,13,14] [O 12 (.mv (.t 0)),O 13 (.lenl (.t 12)),O 14 (.mv (.c (.int .i64 0)))])
 (.block 0 (.lp false 0 [4,14] [3,12,13] (.seq (.reg [3,4,12,13,14,15] [O 15 (.bin .lss (.t 14) (.t 13))])
 (.seq (.cond (.t 15) (.skip) (.exit 0))
 (.seq (.block 1 (.seq (.reg [3,4,5,6,12,13,14] [O 16 (.mv (.t 14)),O 17 (.ia 6 (.t 12) (.t 14)),O 18 (.load (some 6) (.t 17)),O 6 (.alloc [(.int .i64 0),.e0,(.str []),.e0,.e0,.e0]),O 5 (.mv (.t 16)),.mk none none (.store 6 (.t 6) (.t 18))])
 (.frz 6 0 (.seq (.seq (.reg [3,4,5,12,13,14,20,21,22] [O 19 (.fa 4 (.t 6)),O 20 (.load none (.t 19)),O 21 (.lenl (.t 20)),O 22 (.mv (.c (.int .i64 0)))])
 (.block 2 (.lp false 2 [22] [3,4,5,12,13,14,20,21] (.seq (.reg [3,4,5,12,13,14,20,21,22,23] [O 23 (.bin .lss (.t 22) (.t 21))])
 (.seq (.cond (.t 23) (.skip) (.exit 2))
 (.seq (.block 3 (.seq (.reg [3,4,5,8,12,13,14,20,21,22] [O 24 (.ia 1 (.t 20) (.t 22)),O 25 (.load none (.t 24)),O 8 (.mv (.t 25))])
 (.seq (.reg [3,4,5,8,12,13,14,20,21,22,29] [O 26 (.mv (.t 8)),O 27 (.mv (.t 5)),O 28 (.bin .sub (.t 27) (.c (.int .i64 1))),O 29 (.call 34 [(.t 26),(.c (.int .i64 0)),(.t 28)])])
 (.jn false [] [3,4,5,12,13,14,20,21,22] (.cond (.t 29) (.regd [3,4,5,12,13,14,20,21,22] [0,1,2,3,4,5,6,7,8,9,10,11,12] [0,0,0,0,12,28,0,0,192,448,1020,2047,4095] [0,0,0,0,0,1,0,0,0,1,0,0,4] [O 30 (.mv (.t 3)),O 31 (.mv (.t 5)),O 32 (.mv (.t 3)),O 33 (.mv (.t 5)),O 34 (.ia 1 (.t 32) (.t 33)),O 35 (.load none (.t 34)),O 36 (.mv (.t 3)),O 37 (.mv (.t 8)),O 38 (.ia 1 (.t 36) (.t 37)),O 39 (.load none (.t 38)),O 40 (.mx true (.t 35) (.t 39)),O 41 (.ia 1 (.t 30) (.t 31)),.mk none none (.store 1 (.t 41) (.t 40))]) (.skip))))))
 (.reg [3,4,5,12,13,14,20,21,22] [O 42 (.bin .add (.t 22) (.c (.int .i64 1))),O 22 (.mv (.t 42))])))))))
 (.seq (.reg [3,4,5,12,13,14] [O 43 (.mv (.t 3)),O 44 (.mv (.t 5)),O 45 (.ia 1 (.t 43) (.t 44)),O 46 (.load none (.t 45)),O 47 (.bin .add (.t 46) (.c (.int .i64 1))),O 48 (.ia 1 (.t 43) (.t 44)),.mk none none (.store 1 (.t 48) (.t 47))])
 (.reg [3,4,12,13,14] [O 49 (.mv (.t 4)),O 50 (.mv (.t 3)),O 51 (.mv (.t 5)),O 52 (.ia 1 (.t 50) (.t 51)),O 53 (.load none (.t 52)),O 54 (.mx true (.t 49) (.t 53)),O 4 (.mv (.t 54))]))))))
 (.reg [3,4,12,13,14] [O 55 (.bin .add (.t 14) (.c (.int .i64 1))),O 14 (.mv (.t 55))])))))))
 (.seq (.reg [2] [O 56 (.mv (.t 4)),O 2 (.mv (.t 56))])
 (.ret)))))
def cy16:List (Nat×An):=[(2,.t (.int .i64)),(11,.t (.lst (.int .i64))),(4,.t (.int .i64)),(14,.t (.int .i64)),(18,.t (.nm .Stp)),(6,.cells ⟨some .Stp,[some ((.int .i64),.no),some ((.lst .str),.no),some (.str,.no),some ((.lst (.nm .Sel)),.no),some ((.lst (.int .i64)),.no),some ((.lst .str),.no)]⟩),(22,.t (.int .i64))]
def c17:CC :=
 .seq (.reg [0] [O 2 (.mv (.c (.int .i64 0)))])
 (.seq (.reg [0,3] [O 3 (.mv (.c (.int .i64 0)))])
 (.seq (.reg [0,3,4] [O 9 (.bsl0),O 4 (.mv (.t 9))])
 (.seq (.seq (.reg [0,3,4,5] [O 5 (.mv (.c (.int .i64 0)))])
 (.block 0 (.lp false 0 [3,4,5] [0] (.seq (.seq (.reg [0,3,4,5,13] [O 10 (.mv (.t 5)),O 11 (.mv (.t 0)),O 12 (.lenl (.t 11)),O 13 (.bin .lss (.t 10) (.t 12))])
 (.cond (.t 13) (.skip) (.exit 0)))
 (.seq (.block 1 (.seq (.reg [0,3,4,5,6] [O 6 (.mv (.c (.int .i64 1)))])
 (.seq (.seq (.reg [0,3,4,5,6,7] [O 7 (.mv (.c (.int .i64 0)))])
 (.block 2 (.lp false 2 [6,7] [0,3,4,5] (.seq (.seq (.reg [0,3,4,5,6,7,23] [O 16 (.mv (.t 7)),O 17 (.mv (.t 0)),O 18 (.mv (.t 5)),O 19 (.ia 6 (.t 17) (.t 18)),O 20 (.fa 4 (.t 19)),O 21 (.load none (.t 20)),O 22 (.lenl (.t 21)),O 23 (.bin .lss (.t 16) (.t 22))])
 (.cond (.t 23) (.skip) (.exit 2)))
 (.seq (.block 3 (.seq (.reg [0,3,4,5,6,7,8] [O 26 (.mv (.t 0)),O 27 (.mv (.t 5)),O 28 (.ia 6 (.t 26) (.t 27)),O 29 (.fa 4 (.t 28)),O 30 (.load none (.t 29)),O 31 (.mv (.t 7)),O 32 (.ia 1 (.t 30) (.t 31)),O 33 (.load none (.t 32)),O 8 (.mv (.t 33))])
 (.seq (.reg [0,3,4,5,6,7,8,46] [O 34 (.mv (.t 8)),O 35 (.mv (.t 5)),O 36 (.bin .sub (.t 35) (.c (.int .i64 1))),O 37 (.call 35 [(.t 34),(.c (.int .i64 0)),(.t 36)]),O 38 (.mv (.t 37)),.mk (some 39) (some (38,true)) (.mv (.t 4)),.mk (some 40) (some (38,true)) (.mv (.t 8)),.mk (some 41) (some (38,true)) (.ia 1 (.t 39) (.t 40)),.mk (some 42) (some (38,true)) (.load none (.t 41)),.mk (some 43) (some (38,true)) (.bin .add (.t 42) (.c (.int .i64 1))),.mk (some 44) (some (38,true)) (.mv (.t 6)),.mk (some 45) (some (38,true)) (.bin .gtr (.t 43) (.t 44)),O 46 (.pick (.t 38) (.t 45) (.c (.bool false)))])
 (.jn false [6] [0,3,4,5,7] (.cond (.t 46) (.reg [0,3,4,5,6,7] [O 47 (.mv (.t 4)),O 48 (.mv (.t 8)),O 49 (.ia 1 (.t 47) (.t 48)),O 50 (.load none (.t 49)),O 51 (.bin .add (.t 50) (.c (.int .i64 1))),O 6 (.mv (.t 51))]) (.skip))))))
 (.reg [0,3,4,5,6,7] [O 24 (.mv (.t 7)),O 25 (.bin .add (.t 24) (.c (.int .i64 1))),O 7 (.mv (.t 25))]))))))
 (.seq (.reg [0,3,4,5,6] [O 52 (.mv (.t 4)),O 53 (.mv (.t 6)),O 54 (.bsl 1 [(.t 53)]),O 55 (.app 1 (.t 52) (.t 54)),O 4 (.mv (.t 55))])
 (.seq (.reg [0,3,4,5,6,58] [O 56 (.mv (.t 6)),O 57 (.mv (.t 3)),O 58 (.bin .gtr (.t 56) (.t 57))])
 (.jn false [3] [0,4,5] (.cond (.t 58) (.reg [0,3,4,5] [O 59 (.mv (.t 6)),O 3 (.mv (.t 59))]) (.skip))))))))
 (.reg [0,3,4,5] [O 14 (.mv (.t 5)),O 15 (.bin .add (.t 14) (.c (.int .i64 1))),O 5 (.mv (.t 15))]))))))
 (.seq (.reg [2] [O 60 (.mv (.t 3)),O 2 (.mv (.t 60))])
 (.ret)))))
def cy17:List (Nat×An):=[(2,.t (.int .i64)),(3,.t (.int .i64)),(9,.t (.lst (.int .i64))),(4,.t (.lst (.int .i64))),(5,.t (.int .i64)),(6,.t (.int .i64)),(7,.t (.int .i64)),(8,.t (.int .i64)),(46,.t .bool),(54,.t (.lst (.int .i64))),(55,.t (.lst (.int .i64)))]
def c18:CC :=
 .seq (.reg [0,3] [O 3 (.boxi 1 (.t 1)),O 4 (.mv (.c (.sl 1 [])))])
 (.seq (.reg [0,3,5] [O 5 (.mv (.c .e0))])
 (.seq (.seq (.reg [3,5,9,10,11] [O 9 (.mv (.t 0)),O 10 (.lenl (.t 9)),O 11 (.mv (.c (.int .i64 0)))])
 (.block 0 (.lp false 0 [5,11] [3,9,10] (.seq (.reg [3,5,9,10,11,12] [O 12 (.bin .lss (.t 11) (.t 10))])
 (.seq (.cond (.t 12) (.skip) (.exit 0))
 (.seq (.block 1 (.seq (.reg [3,5,6,7,9,10,11] [O 13 (.mv (.t 11)),O 14 (.ia 6 (.t 9) (.t 11)),O 15 (.load (some 6) (.t 14)),O 7 (.alloc [(.int .i64 0),.e0,(.str []),.e0,.e0,.e0]),O 6 (.mv (.t 13)),.mk none none (.store 6 (.t 7) (.t 15))])
 (.frz 7 0 (.seq (.reg [3,5,6,7,8,9,10,11] [O 16 (.mkfn 36 [(.t 3)]),O 8 (.mv (.t 16))])
 (.seq (.reg [3,5,6,9,10,11,26] [O 17 (.mv (.t 8)),O 18 (.mv (.t 6)),O 19 (.callv (.t 17) [(.t 18)]),O 20 (.mv (.t 19)),.mk (some 21) (some (20,true)) (.fa 4 (.t 7)),.mk (some 22) (some (20,true)) (.load none (.t 21)),.mk (some 23) (some (20,true)) (.mv (.t 8)),.mk (some 24) (some (20,true)) (.call 38 [(.t 22),(.t 23)]),.mk (some 25) (some (20,true)) (.not (.t 24)),O 26 (.pick (.t 20) (.t 25) (.c (.bool false)))])
 (.jn false [5] [3,9,10,11] (.cond (.t 26) (.reg [3,5,9,10,11] [O 27 (.mv (.t 5)),O 28 (.mv (.t 6)),O 29 (.bsl 1 [(.t 28)]),O 30 (.app 1 (.t 27) (.t 29)),O 5 (.mv (.t 30))]) (.skip))))))))
 (.reg [3,5,9,10,11] [O 31 (.bin .add (.t 11) (.c (.int .i64 1))),O 11 (.mv (.t 31))])))))))
 (.seq (.reg [4] [O 32 (.mv (.t 5)),O 4 (.mv (.t 32))])
 (.ret))))
def cy18:List (Nat×An):=[(3,.cells ⟨none,[some ((.lst (.int .i64)),.no)]⟩),(4,.t (.lst (.int .i64))),(5,.t (.lst (.int .i64))),(9,.t (.lst (.nm .Stp))),(10,.t (.int .i64)),(11,.t (.int .i64)),(15,.t (.nm .Stp)),(7,.cells ⟨some .Stp,[some ((.int .i64),.no),some ((.lst .str),.no),some (.str,.no),some ((.lst (.nm .Sel)),.no),some ((.lst (.int .i64)),.no),some ((.lst .str),.no)]⟩),(6,.t (.int .i64)),(26,.t .bool),(29,.t (.lst (.int .i64))),(30,.t (.lst (.int .i64)))]
def c31:CC :=
 .seq (.reg [0] [O 2 (.mv (.c .nilp))])
 (.seq (.seq (.reg [0,5] [O 3 (.mv (.t 0)),O 4 (.lenl (.t 3)),O 5 (.bin .gtr (.t 4) (.c (.int .i64 2000)))])
 (.jn false [0] [] (.cond (.t 5) (.reg [0] [O 6 (.mv (.t 0)),O 7 (.slc 1 (.t 6) none (some (.c (.int .i64 2000)))),O 0 (.mv (.t 7))]) (.skip))))
 (.seq (.reg [2] [O 8 (.mv (.t 0)),O 9 (.build [.e0,(.int .i64 0)] [(0,1,(.t 8))]),O 10 (.boxm 2 (.t 9)),O 2 (.mv (.t 10))])
 (.ret)))
def cy31:List (Nat×An):=[(0,.t (.lst (.int .u8))),(10,.cells ⟨none,[some ((.lst (.int .u8)),.no),some ((.int .i64),.no)]⟩)]
def c32:CC :=
 .seq (.reg [0] [O 2 (.mv (.c (.sl 6 [])))])
 (.seq (.reg [3,4] [O 8 (.mv (.t 0)),O 9 (.call 49 [(.t 8)]),O 7 (.mv (.t 9)),O 10 (.ext (.t 7) 0),O 11 (.ext (.t 7) 1),O 3 (.mv (.t 10)),O 4 (.mv (.t 11))])
 (.seq (.reg [5] [O 13 (.mv (.t 3)),O 14 (.mv (.t 4)),O 15 (.call 50 [(.t 13),(.t 14)]),O 12 (.mv (.t 15)),O 16 (.ext (.t 12) 0),O 17 (.ext (.t 12) 1),O 5 (.mv (.t 16)),O 6 (.mv (.t 17))])
 (.seq (.reg [2] [O 18 (.mv (.t 5)),O 2 (.mv (.t 18))])
 (.ret))))
def cy32:List (Nat×An):=[(2,.t (.lst (.nm .Stp)))]
def c33:CC :=
 .seq (.reg [0,1] [O 4 (.mv (.c (.int .i64 0)))])
 (.seq (.reg [0,1] [O 7 (.mv (.t 0)),O 8 (.mv (.t 0)),O 9 (.nilc (.t 8)),O 10 (.fa 1 (.t 9)),O 11 (.load none (.t 10)),O 12 (.bin .add (.t 11) (.c (.int .i64 1))),O 13 (.nilc (.t 7)),O 14 (.fa 1 (.t 13)),.mk none none (.store 1 (.t 14) (.t 12))])
 (.seq (.seq (.reg [0,1,24] [O 15 (.mv (.t 1)),O 16 (.bin .lss (.t 15) (.c (.int .i64 1))),O 17 (.mv (.t 16)),.mk (some 18) (some (17,false)) (.mv (.t 0)),.mk (some 19) (some (17,false)) (.nilc (.t 18)),.mk (some 20) (some (17,false)) (.fa 0 (.t 19)),.mk (some 21) (some (17,false)) (.load none (.t 20)),.mk (some 22) (some (17,false)) (.lenl (.t 21)),.mk (some 23) (some (17,false)) (.bin .eql (.t 22) (.c (.int .i64 0))),O 24 (.pick (.t 17) (.c (.bool true)) (.t 23))])
 (.cond (.t 24) (.seq (.reg [4] [O 4 (.mv (.c (.int .i64 0)))])
 (.ret)) (.skip)))
 (.seq (.reg [0,1,5] [O 25 (.mv (.t 0)),O 26 (.nilc (.t 25)),O 27 (.fa 1 (.t 26)),O 28 (.load none (.t 27)),O 29 (.bin .sub (.t 28) (.c (.int .i64 1))),O 5 (.mv (.t 29))])
 (.seq (.seq (.reg [0,1,5,36] [O 30 (.mv (.t 5)),O 31 (.mv (.t 0)),O 32 (.nilc (.t 31)),O 33 (.fa 0 (.t 32)),O 34 (.load none (.t 33)),O 35 (.lenl (.t 34)),O 36 (.bin .lss (.t 30) (.t 35))])
 (.cond (.t 36) (.seq (.reg [4] [O 37 (.mv (.t 0)),O 38 (.nilc (.t 37)),O 39 (.fa 0 (.t 38)),O 40 (.load none (.t 39)),O 41 (.mv (.t 5)),O 42 (.ia 1 (.t 40) (.t 41)),O 43 (.load none (.t 42)),O 44 (.conv .i64 (.t 43)),O 45 (.mv (.t 1)),O 46 (.bin .rem (.t 44) (.t 45)),O 4 (.mv (.t 46))])
 (.ret)) (.skip)))
 (.seq (.regd [1,6] [0,1,2,3,4,5,6,7,8,9,10,11,12,13,14,15,16,17,18,19,20,21,22,23,24,25,26,27,28,29,30,31,32,33,34,35,36,37,38,39,40,41,42,43,44,45] [0,1,3,7,0,0,32,96,224,480,1008,2047,4095,8191,16383,0,32768,98304,229376,0,524288,1572864,0,4194304,12582912,29360128,62914560,133693440,268402688,536838144,1073709056,2147450880,4294967295,0,8589934592,34359738367,0,0,137438953472,412316860416,962072674304,2061584302080,4329327034368,8727373545472,17592186044415,35184372088831] [0,0,0,1,0,0,0,0,1,0,0,0,1,0,0,0,0,0,1,0,0,0,0,0,0,1,0,0,0,1,0,0,0,0,0,0,0,0,0,0,1,0,0,0,0,0] [O 47 (.mv (.t 0)),O 48 (.nilc (.t 47)),O 49 (.fa 0 (.t 48)),O 50 (.load none (.t 49)),O 51 (.mv (.t 5)),O 52 (.mv (.t 0)),O 53 (.nilc (.t 52)),O 54 (.fa 0 (.t 53)),O 55 (.load none (.t 54)),O 56 (.lenl (.t 55)),O 57 (.bin .rem (.t 51) (.t 56)),O 58 (.ia 1 (.t 50) (.t 57)),O 59 (.load none (.t 58)),O 60 (.conv .i64 (.t 59)),O 61 (.bin .mul (.t 60) (.c (.int .i64 131))),O 62 (.mv (.t 0)),O 63 (.nilc (.t 62)),O 64 (.fa 0 (.t 63)),O 65 (.load none (.t 64)),O 66 (.mv (.t 5)),O 67 (.bin .mul (.t 66) (.c (.int .i64 7))),O 68 (.bin .add (.t 67) (.c (.int .i64 3))),O 69 (.mv (.t 0)),O 70 (.nilc (.t 69)),O 71 (.fa 0 (.t 70)),O 72 (.load none (.t 71)),O 73 (.lenl (.t 72)),O 74 (.bin .rem (.t 68) (.t 73)),O 75 (.ia 1 (.t 65) (.t 74)),O 76 (.load none (.t 75)),O 77 (.conv .i64 (.t 76)),O 78 (.bin .mul (.t 77) (.c (.int .i64 1117))),O 79 (.bin .add (.t 61) (.t 78)),O 80 (.mv (.t 5)),O 81 (.bin .mul (.t 80) (.c (.int .i64 29))),O 82 (.bin .add (.t 79) (.t 81)),O 83 (.mv (.t 5)),O 84 (.mv (.t 0)),O 85 (.nilc (.t 84)),O 86 (.fa 0 (.t 85)),O 87 (.load none (.t 86)),O 88 (.lenl (.t 87)),O 89 (.bin .quo (.t 83) (.t 88)),O 90 (.bin .mul (.t 89) (.c (.int .i64 53))),O 91 (.bin .add (.t 82) (.t 90)),O 6 (.mv (.t 91))])
 (.seq (.reg [1,6] [O 92 (.mv (.t 6)),O 93 (.mv (.t 6)),O 94 (.bin .quo (.t 93) (.c (.int .i64 64))),O 95 (.bin .xor (.t 92) (.t 94)),O 6 (.mv (.t 95))])
 (.seq (.reg [4] [O 96 (.mv (.t 6)),O 97 (.mv (.t 1)),O 98 (.bin .rem (.t 96) (.t 97)),O 4 (.mv (.t 98))])
 (.ret))))))))
def cy33:List (Nat×An):=[(4,.t (.int .i64)),(24,.t .bool)]
def c34:CC :=
 .seq (.reg [0,1,2] [O 6 (.mv (.c (.bool false)))])
 (.seq (.reg [6] [O 7 (.mv (.t 0)),O 8 (.mv (.t 1)),O 9 (.bin .geq (.t 7) (.t 8)),O 10 (.mv (.t 9)),.mk (some 11) (some (10,true)) (.mv (.t 0)),.mk (some 12) (some (10,true)) (.mv (.t 2)),.mk (some 13) (some (10,true)) (.bin .leq (.t 11) (.t 12)),O 14 (.pick (.t 10) (.t 13) (.c (.bool false))),O 6 (.mv (.t 14))])
 (.ret))
def cy34:List (Nat×An):=[(6,.t .bool)]
def c35:CC :=
 .seq (.reg [0,1,2] [O 6 (.mv (.c (.bool false)))])
 (.seq (.reg [6] [O 7 (.mv (.t 0)),O 8 (.mv (.t 1)),O 9 (.bin .geq (.t 7) (.t 8)),O 10 (.mv (.t 9)),.mk (some 11) (some (10,true)) (.mv (.t 0)),.mk (some 12) (some (10,true)) (.mv (.t 2)),.mk (some 13) (some (10,true)) (.bin .leq (.t 11) (.t 12)),O 14 (.pick (.t 10) (.t 13) (.c (.bool false))),O 6 (.mv (.t 14))])
 (.ret))
def cy35:List (Nat×An):=[(6,.t .bool)]
def c36:CC :=
 .seq (.reg [0,1] [O 3 (.mv (.c (.bool false)))])
 (.seq (.reg [3] [O 4 (.load none (.t 1)),O 5 (.mv (.t 0)),O 6 (.call 37 [(.t 4),(.t 5)]),O 7 (.not (.t 6)),O 3 (.mv (.t 7))])
 (.ret))
def cy36:List (Nat×An):=[(3,.t .bool)]
def c37:CC :=
 .seq (.reg [0,1] [O 4 (.mv (.c (.bool false)))])
 (.seq (.reg [4] [O 5 (.mv (.t 0)),O 6 (.mv (.t 1)),O 7 (.call 51 [(.t 5),(.t 6)]),O 8 (.bin .geq (.t 7) (.c (.int .i64 0))),O 4 (.mv (.t 8))])
 (.ret))
def cy37:List (Nat×An):=[(4,.t .bool)]
def c38:CC :=
 .seq (.reg [0,1] [O 4 (.mv (.c (.bool false)))])
 (.seq (.reg [4] [O 5 (.mv (.t 0)),O 6 (.mv (.t 1)),O 7 (.call 52 [(.t 5),(.t 6)]),O 8 (.bin .geq (.t 7) (.c (.int .i64 0))),O 4 (.mv (.t 8))])
 (.ret))
def cy38:List (Nat×An):=[(4,.t .bool)]
def c49:CC :=
 .seq (.reg [0] [O 2 (.mv (.c (.sl 2 []))),O 3 (.mv (.c (.sl 5 [])))])
 (.seq (.reg [0,4] [O 5 (.mv (.t 0)),O 6 (.call 67 [(.t 5)]),O 4 (.mv (.t 6))])
 (.seq (.reg [2,3] [O 7 (.mv (.t 4)),O 8 (.mv (.t 0)),O 9 (.mv (.t 4)),O 10 (.call 69 [(.t 9)]),O 11 (.call 68 [(.t 8),(.t 10)]),O 2 (.mv (.t 7)),O 3 (.mv (.t 11))])
 (.ret)))
def cy49:List (Nat×An):=[(2,.t (.lst (.nm .Part))),(3,.t (.lst (.nm .Sel)))]
def c50:CC :=
 .seq (.reg [0,1] [O 4 (.mv (.c (.sl 6 []))),O 5 (.mv (.c (.bool false)))])
 (.seq (.reg [0,1,6,7] [O 11 (.mv (.t 0)),O 12 (.call 70 [(.t 11)]),O 10 (.mv (.t 12)),O 13 (.ext (.t 10) 0),O 14 (.ext (.t 10) 1),O 6 (.alloc [(.str []),.e0,.e0]),O 7 (.alloc [(.int .i64 0),(.str []),(.str []),(.int .i64 0)]),.mk none none (.store 3 (.t 6) (.t 13)),.mk none none (.store 4 (.t 7) (.t 14))])
 (.frz 6 0 (.frz 7 0 (.seq (.seq (.frz 6 0 (.reg [0,1,6,25] [O 15 (.fa 3 (.t 7)),O 16 (.load none (.t 15)),O 17 (.bin .neq (.t 16) (.c (.int .i64 0))),O 18 (.mv (.t 17)),.mk (some 19) (some (18,false)) (.fa 0 (.t 6)),.mk (some 20) (some (18,false)) (.load (some 2) (.t 19)),.mk (some 21) (some (18,false)) (.mv (.t 1)),.mk (some 22) (some (18,false)) (.call 71 [(.t 20),(.t 21)]),.mk (some 23) (some (18,false)) (.field 1 none (.t 22)),.mk (some 24) (some (18,false)) (.bin .neq (.t 23) (.c (.int .i64 0))),O 25 (.pick (.t 18) (.c (.bool true)) (.t 24))]))
 (.cond (.t 25) (.seq (.reg [4,5] [O 26 (.bsl0),O 4 (.mv (.t 26)),O 5 (.mv (.c (.bool false)))])
 (.ret)) (.skip)))
 (.seq (.frz 6 0 (.reg [8,9] [O 28 (.mv (.t 0)),O 29 (.fa 0 (.t 6)),O 30 (.load (some 2) (.t 29)),O 31 (.mv (.t 1)),O 32 (.call 72 [(.t 28),(.t 30),(.t 31)]),O 27 (.mv (.t 32)),O 33 (.ext (.t 27) 0),O 34 (.ext (.t 27) 1),O 8 (.mv (.t 33)),O 9 (.mv (.t 34))]))
 (.seq (.reg [4,5] [O 35 (.mv (.t 8)),O 36 (.call 73 [(.t 35)]),O 37 (.mv (.t 9)),O 4 (.mv (.t 36)),O 5 (.mv (.t 37))])
 (.ret)))))))
def cy50:List (Nat×An):=[(4,.t (.lst (.nm .Stp))),(5,.t .bool),(6,.cells ⟨some .Chart,[some (.str,.no),some ((.lst (.nm .Typ)),.no),some ((.lst (.nm .Own)),.no)]⟩),(7,.cells ⟨some .CFault,[some ((.int .i64),.no),some (.str,.no),some (.str,.no),some ((.int .i64),.no)]⟩),(20,.t (.nm .Part)),(23,.t (.int .i64)),(25,.t .bool),(26,.t (.lst (.nm .Stp))),(30,.t (.nm .Part))]
def c51:CC :=
 .seq (.reg [0,1] [O 4 (.mv (.c (.int .i64 0)))])
 (.seq (.seq (.reg [0,1,7,8] [O 6 (.mv (.t 0)),O 7 (.lenl (.t 6)),O 8 (.mv (.c (.int .i64 0)))])
 (.block 0 (.lp true 0 [8] [0,1,7] (.seq (.reg [0,1,7,8,9] [O 9 (.bin .lss (.t 8) (.t 7))])
 (.seq (.cond (.t 9) (.skip) (.exit 0))
 (.seq (.block 1 (.seq (.reg [0,1,5,7,8] [O 10 (.mv (.t 8)),O 5 (.mv (.t 10))])
 (.seq (.reg [0,1,5,7,8,16] [O 11 (.mv (.t 1)),O 12 (.mv (.t 0)),O 13 (.mv (.t 5)),O 14 (.ia 1 (.t 12) (.t 13)),O 15 (.load none (.t 14)),O 16 (.bin .eql (.t 11) (.t 15))])
 (.cond (.t 16) (.seq (.reg [4] [O 17 (.mv (.t 5)),O 4 (.mv (.t 17))])
 (.ret)) (.skip)))))
 (.reg [0,1,7,8] [O 18 (.bin .add (.t 8) (.c (.int .i64 1))),O 8 (.mv (.t 18))])))))))
 (.seq (.reg [4] [O 4 (.mv (.c (.int .i64 (-1))))])
 (.ret)))
def cy51:List (Nat×An):=[(4,.t (.int .i64)),(8,.t (.int .i64))]
def c52:CC :=
 .seq (.reg [0,1] [O 4 (.mv (.c (.int .i64 0)))])
 (.seq (.seq (.reg [0,1,7,8] [O 6 (.mv (.t 0)),O 7 (.lenl (.t 6)),O 8 (.mv (.c (.int .i64 0)))])
 (.block 0 (.lp true 0 [8] [0,1,7] (.seq (.reg [0,1,7,8,9] [O 9 (.bin .lss (.t 8) (.t 7))])
 (.seq (.cond (.t 9) (.skip) (.exit 0))
 (.seq (.block 1 (.seq (.reg [0,1,5,7,8] [O 10 (.mv (.t 8)),O 5 (.mv (.t 10))])
 (.seq (.reg [0,1,5,7,8,16] [O 11 (.mv (.t 1)),O 12 (.mv (.t 0)),O 13 (.mv (.t 5)),O 14 (.ia 1 (.t 12) (.t 13)),O 15 (.load none (.t 14)),O 16 (.callv (.t 11) [(.t 15)])])
 (.cond (.t 16) (.seq (.reg [4] [O 17 (.mv (.t 5)),O 4 (.mv (.t 17))])
 (.ret)) (.skip)))))
 (.reg [0,1,7,8] [O 18 (.bin .add (.t 8) (.c (.int .i64 1))),O 8 (.mv (.t 18))])))))))
 (.seq (.reg [4] [O 4 (.mv (.c (.int .i64 (-1))))])
 (.ret)))
def cy52:List (Nat×An):=[(4,.t (.int .i64)),(8,.t (.int .i64))]
def c67:CC :=
 .seq (.reg [0] [O 2 (.mv (.c (.sl 2 [])))])
 (.seq (.seq (.reg [0,3] [O 3 (.mv (.c (.int .i64 0)))])
 (.block 0 (.lp true 0 [3] [0] (.seq (.seq (.reg [0,3,8] [O 7 (.mv (.t 3)),O 8 (.bin .lss (.t 7) (.c (.int .i64 6)))])
 (.cond (.t 8) (.skip) (.exit 0)))
 (.seq (.block 1 (.seq (.reg [0,3,4] [O 11 (.mv (.t 0)),O 12 (.call 80 [(.t 11)]),O 4 (.mv (.t 12))])
 (.seq (.reg [0,3,4,5] [O 14 (.mv (.t 4)),O 15 (.call 81 [(.t 14)]),O 13 (.mv (.t 15)),O 16 (.ext (.t 13) 0),O 17 (.ext (.t 13) 1),O 5 (.mv (.t 16)),O 6 (.mv (.t 17))])
 (.seq (.reg [0,3,4,18] [O 18 (.mv (.t 5))])
 (.cond (.t 18) (.seq (.reg [2] [O 19 (.mv (.t 4)),O 2 (.mv (.t 19))])
 (.ret)) (.skip))))))
 (.reg [0,3] [O 9 (.mv (.t 3)),O 10 (.bin .add (.t 9) (.c (.int .i64 1))),O 3 (.mv (.t 10))]))))))
 (.seq (.reg [2] [O 20 (.build [(.str []),(.str []),(.bool false),(.bool false),(.bool false),(.bool false),(.bool false),.sl 1 []] [(0,1,(.c (.str [117,115,101,114,115]))),(1,1,(.c (.str [117,115,101,114]))),(2,1,(.c (.bool true)))]),O 21 (.bsl 8 [(.t 20)]),O 22 (.build [(.str []),(.str []),.sl 8 []] [(0,1,(.c (.str [113,117,101,114,121]))),(2,1,(.t 21))]),O 23 (.build [(.str []),(.str []),(.bool false),(.bool false),(.bool false),(.bool false),(.bool false),.sl 1 []] [(0,1,(.c (.str [105,100]))),(1,1,(.c (.str [105,110,116]))),(3,1,(.c (.bool true)))]),O 24 (.build [(.str []),(.str []),(.bool false),(.bool false),(.bool false),(.bool false),(.bool false),.sl 1 []] [(0,1,(.c (.str [110,97,109,101]))),(1,1,(.c (.str [116,101,120,116])))]),O 25 (.bsl 8 [(.t 23),(.t 24)]),O 26 (.build [(.str []),(.str []),.sl 8 []] [(0,1,(.c (.str [117,115,101,114]))),(1,1,(.c (.str [105,100]))),(2,1,(.t 25))]),O 27 (.bsl 3 [(.t 22),(.t 26)]),O 28 (.build [(.str []),.sl 3 []] [(0,1,(.c (.str [101,97,115,116]))),(1,1,(.t 27))]),O 29 (.bsl 2 [(.t 28)]),O 2 (.mv (.t 29))])
 (.ret)))
def cy67:List (Nat×An):=[(2,.t (.lst (.nm .Part))),(3,.t (.int .i64)),(20,.t (.nm .Field)),(21,.t (.lst (.nm .Field))),(22,.t (.nm .Typ)),(23,.t (.nm .Field)),(24,.t (.nm .Field)),(25,.t (.lst (.nm .Field))),(26,.t (.nm .Typ)),(27,.t (.lst (.nm .Typ))),(28,.t (.nm .Part)),(29,.t (.lst (.nm .Part)))]
def c68:CC :=
 .seq (.reg [0,3] [O 3 (.boxi 2 (.t 1)),O 4 (.mv (.c (.sl 5 [])))])
 (.seq (.reg [0,3,5] [O 7 (.mv (.t 0)),O 8 (.load (some 2) (.t 3)),O 9 (.call 82 [(.t 7),(.t 8),(.c (.str [113,117,101,114,121])),(.c (.int .i64 1))]),O 5 (.mv (.t 9))])
 (.seq (.seq (.reg [0,3,5,6] [O 6 (.mv (.c (.int .i64 0)))])
 (.block 0 (.lp false 0 [5,6] [0,3] (.seq (.seq (.reg [0,3,5,6,23] [O 10 (.mv (.t 6)),O 11 (.bin .lss (.t 10) (.c (.int .i64 4))),O 12 (.mv (.t 11)),.mk (some 13) (some (12,true)) (.mv (.t 5)),.mk (some 14) (some (12,true)) (.call 83 [(.t 13)]),.mk (some 15) (some (12,true)) (.not (.t 14)),.mk (some 16) (some (12,true)) (.mv (.t 15)),.mk (some 17) (some (16,false)) (.load (some 2) (.t 3)),.mk (some 18) (some (16,false)) (.mv (.t 5)),.mk (some 19) (some (16,false)) (.call 71 [(.t 17),(.t 18)]),.mk (some 20) (some (16,false)) (.field 1 none (.t 19)),.mk (some 21) (some (16,false)) (.bin .neq (.t 20) (.c (.int .i64 0))),.mk (some 22) (some (12,true)) (.pick (.t 16) (.c (.bool true)) (.t 21)),O 23 (.pick (.t 12) (.t 22) (.c (.bool false)))])
 (.cond (.t 23) (.skip) (.exit 0)))
 (.seq (.block 1 (.reg [0,3,5,6] [O 26 (.mv (.t 0)),O 27 (.load (some 2) (.t 3)),O 28 (.call 82 [(.t 26),(.t 27),(.c (.str [113,117,101,114,121])),(.c (.int .i64 1))]),O 5 (.mv (.t 28))]))
 (.reg [0,3,5,6] [O 24 (.mv (.t 6)),O 25 (.bin .add (.t 24) (.c (.int .i64 1))),O 6 (.mv (.t 25))]))))))
 (.seq (.seq (.reg [3,5,31] [O 29 (.mv (.t 5)),O 30 (.call 83 [(.t 29)]),O 31 (.not (.t 30))])
 (.cond (.t 31) (.seq (.reg [4] [O 32 (.fa 1 (.t 3)),O 33 (.load none (.t 32)),O 34 (.ia 3 (.t 33) (.c (.int .i64 0))),O 35 (.fa 2 (.t 34)),O 36 (.load none (.t 35)),O 37 (.ia 8 (.t 36) (.c (.int .i64 0))),O 38 (.fa 0 (.t 37)),O 39 (.load none (.t 38)),O 40 (.build [(.str []),(.str []),(.bool false),(.int .i64 0),.sl 5 []] [(1,1,(.t 39))]),O 41 (.bsl 5 [(.t 40)]),O 4 (.mv (.t 41))])
 (.ret)) (.skip)))
 (.seq (.reg [4] [O 42 (.mv (.t 5)),O 4 (.mv (.t 42))])
 (.ret)))))
def cy68:List (Nat×An):=[(3,.cells ⟨some .Part,[some (.str,.no),some ((.lst (.nm .Typ)),.no)]⟩),(4,.t (.lst (.nm .Sel))),(5,.t (.lst (.nm .Sel))),(6,.t (.int .i64)),(20,.t (.int .i64)),(23,.t .bool),(40,.t (.nm .Sel)),(41,.t (.lst (.nm .Sel)))]
def c69:CC :=
 .seq (.reg [0,2] [O 2 (.alloc [(.str []),.e0])])
 (.seq (.reg [2,3,4] [O 6 (.mv (.t 0)),O 7 (.call 70 [(.t 6)]),O 5 (.mv (.t 7)),O 8 (.ext (.t 5) 0),O 9 (.ext (.t 5) 1),O 3 (.alloc [(.str []),.e0,.e0]),O 4 (.alloc [(.int .i64 0),(.str []),(.str []),(.int .i64 0)]),.mk none none (.store 3 (.t 3) (.t 8)),.mk none none (.store 4 (.t 4) (.t 9))])
 (.frz 3 0 (.frz 4 0 (.seq (.seq (.reg [2,3,12] [O 10 (.fa 3 (.t 4)),O 11 (.load none (.t 10)),O 12 (.bin .neq (.t 11) (.c (.int .i64 0)))])
 (.cond (.t 12) (.seq (.reg [2] [O 13 (.call 84 []),O 14 (.build [(.str []),.e0] [(0,1,(.c (.str [97,108,108]))),(1,1,(.t 13))]),.mk none none (.store 2 (.t 2) (.t 14))])
 (.ret)) (.skip)))
 (.seq (.reg [2] [O 15 (.fa 0 (.t 3)),O 16 (.load (some 2) (.t 15)),.mk none none (.store 2 (.t 2) (.t 16))])
 (.ret))))))
def cy69:List (Nat×An):=[(2,.cells ⟨some .Part,[some (.str,.no),some ((.lst (.nm .Typ)),.no)]⟩),(3,.cells ⟨some .Chart,[some (.str,.no),some ((.lst (.nm .Typ)),.no),some ((.lst (.nm .Own)),.no)]⟩),(4,.cells ⟨some .CFault,[some ((.int .i64),.no),some (.str,.no),some (.str,.no),some ((.int .i64),.no)]⟩),(16,.t (.nm .Part))]
def c70:CC :=
 .seq (.reg [0,2,3] [O 2 (.alloc [(.str []),.e0,.e0]),O 3 (.alloc [(.int .i64 0),(.str []),(.str []),(.int .i64 0)])])
 (.seq (.reg [0,2,3,4] [O 9 (.mv (.t 0)),O 10 (.call 85 [(.t 9)]),O 4 (.alloc [(.int .i64 0),(.str []),(.str []),(.int .i64 0)]),.mk none none (.store 4 (.t 4) (.t 10))])
 (.frz 4 0 (.seq (.seq (.reg [0,2,3,4,13] [O 11 (.fa 3 (.t 4)),O 12 (.load none (.t 11)),O 13 (.bin .neq (.t 12) (.c (.int .i64 0)))])
 (.cond (.t 13) (.seq (.regd [2,3] [0,1,2,3] [0,0,1,7] [0,0,4,4] [O 14 (.build [(.str []),.e0,.e0] []),O 15 (.load (some 4) (.t 4)),.mk none none (.store 3 (.t 2) (.t 14)),.mk none none (.store 4 (.t 3) (.t 15))])
 (.ret)) (.skip)))
 (.seq (.reg [0,2,3,4,5] [O 16 (.mv (.t 0)),O 17 (.call 86 [(.t 16)]),O 18 (.build [(.str []),.e0,.e0] [(0,2,(.t 17))]),O 5 (.alloc [(.str []),.e0,.e0]),.mk none none (.store 3 (.t 5) (.t 18))])
 (.seq (.seq (.reg [0,2,3,4,5,23] [O 19 (.fa 0 (.t 5)),O 20 (.load (some 2) (.t 19)),O 21 (.call 87 [(.t 20)]),O 22 (.field 1 none (.t 21)),O 23 (.bin .neq (.t 22) (.c (.int .i64 0)))])
 (.cond (.t 23) (.seq (.reg [2,3] [O 24 (.build [(.str []),.e0,.e0] []),O 25 (.build [(.int .i64 0),(.str []),(.str []),(.int .i64 0)] [(3,1,(.c (.int .i64 8)))]),.mk none none (.store 3 (.t 2) (.t 24)),.mk none none (.store 4 (.t 3) (.t 25))])
 (.ret)) (.skip)))
 (.seq (.seq (.reg [0,2,3,4,5,6] [O 6 (.mv (.c (.int .i64 0)))])
 (.block 0 (.lp false 0 [6] [0,2,3,4,5] (.seq (.seq (.reg [0,2,3,4,5,6,31] [O 26 (.mv (.t 6)),O 27 (.fa 0 (.t 5)),O 28 (.fa 1 (.t 27)),O 29 (.load none (.t 28)),O 30 (.lenl (.t 29)),O 31 (.bin .lss (.t 26) (.t 30))])
 (.cond (.t 31) (.skip) (.exit 0)))
 (.seq (.block 1 (.seq (.reg [0,2,3,4,5,6,7] [O 34 (.fa 0 (.t 5)),O 35 (.fa 1 (.t 34)),O 36 (.load none (.t 35)),O 37 (.mv (.t 6)),O 38 (.ia 3 (.t 36) (.t 37)),O 39 (.load (some 3) (.t 38)),O 7 (.alloc [(.str []),(.str []),.e0]),.mk none none (.store 3 (.t 7) (.t 39))])
 (.frz 7 0 (.seq (.reg [0,2,3,4,5,6,7,8] [O 8 (.mv (.c (.int .i64 0)))])
 (.block 2 (.lp false 2 [8] [0,2,3,4,5,6,7] (.seq (.seq (.reg [0,2,3,4,5,6,7,8,44] [O 40 (.mv (.t 8)),O 41 (.fa 2 (.t 7)),O 42 (.load none (.t 41)),O 43 (.lenl (.t 42)),O 44 (.bin .lss (.t 40) (.t 43))])
 (.cond (.t 44) (.skip) (.exit 2)))
 (.seq (.block 3 (.frz 7 0 (.regd [0,2,3,4,5,6,7,8] [0,1,2,3,4,5,6,7,8,9,10,11,12,13,14,15,16,17,18,19,20,21,22,23,24] [0,1,0,4,0,16,0,112,240,496,0,0,2048,0,8192,0,57344,122880,253952,523264,1048572,2097148,4194303,8388607,16777215] [0,1,0,0,0,0,0,0,0,0,0,0,0,0,0,0,0,0,0,2,0,0,3,0,4] [O 47 (.fa 2 (.t 5)),O 48 (.load none (.t 47)),O 49 (.fa 0 (.t 7)),O 50 (.load none (.t 49)),O 51 (.fa 2 (.t 7)),O 52 (.load none (.t 51)),O 53 (.mv (.t 8)),O 54 (.ia 8 (.t 52) (.t 53)),O 55 (.fa 0 (.t 54)),O 56 (.load none (.t 55)),O 57 (.mv (.t 0)),O 58 (.fa 0 (.t 7)),O 59 (.load none (.t 58)),O 60 (.fa 2 (.t 7)),O 61 (.load none (.t 60)),O 62 (.mv (.t 8)),O 63 (.ia 8 (.t 61) (.t 62)),O 64 (.fa 0 (.t 63)),O 65 (.load none (.t 64)),O 66 (.call 88 [(.t 57),(.t 59),(.t 65)]),O 67 (.build [(.str []),(.str []),.sl 1 []] [(0,1,(.t 50)),(1,1,(.t 56)),(2,1,(.t 66))]),O 68 (.bsl 3 [(.t 67)]),O 69 (.app 3 (.t 48) (.t 68)),O 70 (.fa 2 (.t 5)),.mk none none (.store 1 (.t 70) (.t 69))])))
 (.reg [0,2,3,4,5,6,7,8] [O 45 (.mv (.t 8)),O 46 (.bin .add (.t 45) (.c (.int .i64 1))),O 8 (.mv (.t 46))])))))))))
 (.reg [0,2,3,4,5,6] [O 32 (.mv (.t 6)),O 33 (.bin .add (.t 32) (.c (.int .i64 1))),O 6 (.mv (.t 33))]))))))
 (.seq (.regd [2,3] [0,1,2,3] [0,0,1,7] [1,0,4,4] [O 71 (.load (some 3) (.t 5)),O 72 (.load (some 4) (.t 4)),.mk none none (.store 3 (.t 2) (.t 71)),.mk none none (.store 4 (.t 3) (.t 72))])
 (.ret))))))))
def cy70:List (Nat×An):=[(2,.cells ⟨some .Chart,[some (.str,.no),some ((.lst (.nm .Typ)),.no),some ((.lst (.nm .Own)),.no)]⟩),(3,.cells ⟨some .CFault,[some ((.int .i64),.no),some (.str,.no),some (.str,.no),some ((.int .i64),.no)]⟩),(4,.cells ⟨some .CFault,[some ((.int .i64),.no),some (.str,.no),some (.str,.no),some ((.int .i64),.no)]⟩),(14,.t (.nm .Chart)),(15,.t (.nm .CFault)),(18,.t (.nm .Chart)),(5,.cells ⟨some .Chart,[some (.str,.no),some ((.lst (.nm .Typ)),.no),some ((.lst (.nm .Own)),.no)]⟩),(20,.t (.nm .Part)),(22,.t (.int .i64)),(24,.t (.nm .Chart)),(25,.t (.nm .CFault)),(6,.t (.int .i64)),(39,.t (.nm .Typ)),(7,.cells ⟨some .Typ,[some (.str,.no),some (.str,.no),some ((.lst (.nm .Field)),.no)]⟩),(8,.t (.int .i64)),(67,.t (.nm .Own)),(68,.t (.lst (.nm .Own))),(69,.t (.lst (.nm .Own))),(71,.t (.nm .Chart)),(72,.t (.nm .CFault))]
def c71:CC :=
 .seq (.reg [1,2,4] [O 2 (.boxi 2 (.t 0)),O 4 (.alloc [.e0,(.int .i64 0)])])
 (.seq (.seq (.reg [1,2,4,14] [O 6 (.load (some 2) (.t 2)),O 7 (.call 87 [(.t 6)]),O 8 (.field 1 none (.t 7)),O 9 (.bin .neq (.t 8) (.c (.int .i64 0))),O 10 (.mv (.t 9)),.mk (some 11) (some (10,false)) (.mv (.t 1)),.mk (some 12) (some (10,false)) (.call 83 [(.t 11)]),.mk (some 13) (some (10,false)) (.not (.t 12)),O 14 (.pick (.t 10) (.c (.bool true)) (.t 13))])
 (.cond (.t 14) (.seq (.reg [4] [O 15 (.bsl 1 []),O 16 (.build [.e0,(.int .i64 0)] [(0,1,(.t 15)),(1,1,(.c (.int .i64 1)))]),.mk none none (.store 2 (.t 4) (.t 16))])
 (.ret)) (.skip)))
 (.seq (.reg [4,5] [O 17 (.load (some 2) (.t 2)),O 18 (.mv (.t 1)),O 19 (.bsl 1 []),O 20 (.call 89 [(.t 17),(.c (.str [113,117,101,114,121])),(.t 18),(.t 19)]),O 5 (.alloc [.e0,(.int .i64 0)]),.mk none none (.store 2 (.t 5) (.t 20))])
 (.seq (.reg [4,5] [O 21 (.bsl0),O 22 (.fa 0 (.t 5)),O 23 (.load none (.t 22)),O 24 (.app 1 (.t 21) (.t 23)),O 25 (.fa 0 (.t 5)),.mk none none (.store 1 (.t 25) (.t 24))])
 (.seq (.reg [4] [O 26 (.load (some 2) (.t 5)),.mk none none (.store 2 (.t 4) (.t 26))])
 (.ret)))))
def cy71:List (Nat×An):=[(2,.cells ⟨some .Part,[some (.str,.no),some ((.lst (.nm .Typ)),.no)]⟩),(4,.cells ⟨some .AFault,[some ((.lst .str),.no),some ((.int .i64),.no)]⟩),(6,.t (.nm .Part)),(7,.t (.nm .PFault)),(8,.t (.int .i64)),(9,.t .bool),(10,.t .bool),(11,.t (.lst (.nm .Sel))),(12,.t .bool),(13,.t .bool),(14,.t .bool),(15,.t (.lst .str)),(16,.t (.nm .AFault)),(17,.t (.nm .Part)),(18,.t (.lst (.nm .Sel))),(19,.t (.lst .str)),(20,.t (.nm .AFault)),(5,.cells ⟨some .AFault,[some ((.lst .str),.no),some ((.int .i64),.no)]⟩),(21,.t (.lst .str)),(23,.t (.lst .str)),(24,.t (.lst .str)),(26,.t (.nm .AFault))]
def c72:CC :=
 .seq (.reg [0,2,4] [O 4 (.boxi 2 (.t 1)),O 6 (.mv (.c (.sl 6 []))),O 7 (.mv (.c (.bool false)))])
 (.seq (.reg [0,2,8] [O 12 (.mv (.t 0)),O 13 (.load (some 2) (.t 4)),O 14 (.build [.e0,(.str []),.e0,.e0,(.bool false)] [(0,1,(.t 12)),(1,2,(.t 13)),(4,1,(.c (.bool true)))]),O 15 (.boxm 5 (.t 14)),O 8 (.mv (.t 15))])
 (.seq (.reg [2,8,9] [O 16 (.mv (.t 0)),O 17 (.mv (.t 2)),O 18 (.ia 5 (.t 17) (.c (.int .i64 0))),O 19 (.fa 1 (.t 18)),O 20 (.load none (.t 19)),O 21 (.call 90 [(.t 16),(.c (.str [113,117,101,114,121])),(.t 20)]),O 9 (.mv (.t 21))])
 (.seq (.seq (.reg [2,8,9,23] [O 22 (.mv (.t 9)),O 23 (.bin .lss (.t 22) (.c (.int .i64 0)))])
 (.cond (.t 23) (.seq (.reg [6,7] [O 24 (.bsl 6 []),O 6 (.mv (.t 24)),O 7 (.mv (.c (.bool false)))])
 (.ret)) (.skip)))
 (.seq (.reg [2,8,10] [O 25 (.mv (.t 8)),O 26 (.mv (.t 9)),O 27 (.bsl 1 []),O 28 (.bsl 1 []),O 29 (.call 91 [(.t 25),(.t 26),(.t 27),(.c (.str [113,117,101,114,121])),(.t 28)]),O 10 (.mv (.t 29))])
 (.seq (.reg [8,10,11] [O 30 (.mv (.t 8)),O 31 (.mv (.t 10)),O 32 (.mv (.t 2)),O 33 (.bsl 1 []),O 34 (.call 92 [(.t 30),(.t 31),(.c (.str [113,117,101,114,121])),(.t 32),(.t 33)]),O 11 (.mv (.t 34))])
 (.seq (.reg [8] [O 35 (.mv (.t 8)),O 36 (.nilc (.t 35)),O 37 (.fa 3 (.t 36)),O 38 (.load none (.t 37)),O 39 (.mv (.t 10)),O 40 (.mv (.t 11)),O 41 (.ia 6 (.t 38) (.t 39)),O 42 (.fa 3 (.t 41)),.mk none none (.store 1 (.t 42) (.t 40))])
 (.seq (.seq (.reg [8,47] [O 43 (.mv (.t 8)),O 44 (.nilc (.t 43)),O 45 (.fa 4 (.t 44)),O 46 (.load none (.t 45)),O 47 (.not (.t 46))])
 (.cond (.t 47) (.seq (.reg [6,7] [O 48 (.bsl 6 []),O 6 (.mv (.t 48)),O 7 (.mv (.c (.bool false)))])
 (.ret)) (.skip)))
 (.seq (.reg [6,7] [O 49 (.mv (.t 8)),O 50 (.nilc (.t 49)),O 51 (.fa 3 (.t 50)),O 52 (.load none (.t 51)),O 6 (.mv (.t 52)),O 7 (.mv (.c (.bool true)))])
 (.ret)))))))))
def cy72:List (Nat×An):=[(4,.cells ⟨some .Part,[some (.str,.no),some ((.lst (.nm .Typ)),.no)]⟩),(6,.t (.lst (.nm .Stp))),(7,.t .bool),(12,.t (.lst (.nm .Part))),(13,.t (.nm .Part)),(15,.cells ⟨none,[some ((.lst (.nm .Part)),.no),some (.str,.no),some ((.lst (.nm .Typ)),.no),some ((.lst (.nm .Stp)),.no),some (.bool,.no)]⟩),(16,.t (.lst (.nm .Part))),(17,.t (.lst (.nm .Sel))),(20,.t .str),(21,.t (.int .i64)),(9,.t (.int .i64)),(22,.t (.int .i64)),(23,.t .bool),(24,.t (.lst (.nm .Stp))),(26,.t (.int .i64)),(27,.t (.lst .str)),(28,.t (.lst (.int .i64))),(29,.t (.int .i64)),(10,.t (.int .i64)),(31,.t (.int .i64)),(32,.t (.lst (.nm .Sel))),(33,.t (.lst .str)),(34,.t (.lst (.nm .Sel))),(11,.t (.lst (.nm .Sel))),(38,.t (.lst (.nm .Stp))),(39,.t (.int .i64)),(40,.t (.lst (.nm .Sel))),(46,.t .bool),(47,.t .bool),(48,.t (.lst (.nm .Stp))),(52,.t (.lst (.nm .Stp)))]
def c73:CC :=
 .seq (.reg [0] [O 2 (.mv (.c (.sl 6 [])))])
 (.seq (.reg [0,3] [O 6 (.bsl0),O 3 (.mv (.t 6))])
 (.seq (.seq (.reg [0,3,4] [O 4 (.mv (.c (.int .i64 0)))])
 (.block 0 (.lp false 0 [3,4] [0] (.seq (.seq (.reg [0,3,4,10] [O 7 (.mv (.t 4)),O 8 (.mv (.t 0)),O 9 (.lenl (.t 8)),O 10 (.bin .lss (.t 7) (.t 9))])
 (.cond (.t 10) (.skip) (.exit 0)))
 (.seq (.block 1 (.seq (.reg [0,3,4,5] [O 13 (.mv (.t 0)),O 14 (.mv (.t 4)),O 15 (.ia 6 (.t 13) (.t 14)),O 16 (.load (some 6) (.t 15)),O 5 (.alloc [(.int .i64 0),.e0,(.str []),.e0,.e0,.e0]),.mk none none (.store 6 (.t 5) (.t 16))])
 (.seq (.reg [0,3,4,5] [O 17 (.bsl0),O 18 (.fa 1 (.t 5)),O 19 (.load none (.t 18)),O 20 (.app 1 (.t 17) (.t 19)),O 21 (.fa 1 (.t 5)),.mk none none (.store 1 (.t 21) (.t 20))])
 (.seq (.reg [0,3,4,5] [O 22 (.fa 3 (.t 5)),O 23 (.load none (.t 22)),O 24 (.call 93 [(.t 23)]),O 25 (.fa 3 (.t 5)),.mk none none (.store 1 (.t 25) (.t 24))])
 (.seq (.reg [0,3,4,5] [O 26 (.bsl0),O 27 (.fa 4 (.t 5)),O 28 (.load none (.t 27)),O 29 (.app 1 (.t 26) (.t 28)),O 30 (.fa 4 (.t 5)),.mk none none (.store 1 (.t 30) (.t 29))])
 (.seq (.reg [0,3,4,5] [O 31 (.bsl0),O 32 (.fa 5 (.t 5)),O 33 (.load none (.t 32)),O 34 (.app 1 (.t 31) (.t 33)),O 35 (.fa 5 (.t 5)),.mk none none (.store 1 (.t 35) (.t 34))])
 (.frz 5 0 (.reg [0,3,4] [O 36 (.mv (.t 3)),O 37 (.load (some 6) (.t 5)),O 38 (.bsl 6 [(.t 37)]),O 39 (.app 6 (.t 36) (.t 38)),O 3 (.mv (.t 39))]))))))))
 (.reg [0,3,4] [O 11 (.mv (.t 4)),O 12 (.bin .add (.t 11) (.c (.int .i64 1))),O 4 (.mv (.t 12))]))))))
 (.seq (.reg [2] [O 40 (.mv (.t 3)),O 2 (.mv (.t 40))])
 (.ret))))
def cy73:List (Nat×An):=[(2,.t (.lst (.nm .Stp))),(6,.t (.lst (.nm .Stp))),(3,.t (.lst (.nm .Stp))),(4,.t (.int .i64)),(7,.t (.int .i64)),(8,.t (.lst (.nm .Stp))),(9,.t (.int .i64)),(10,.t .bool),(13,.t (.lst (.nm .Stp))),(14,.t (.int .i64)),(16,.t (.nm .Stp)),(5,.cells ⟨some .Stp,[some ((.int .i64),.no),some ((.lst .str),.no),some (.str,.no),some ((.lst (.nm .Sel)),.no),some ((.lst (.int .i64)),.no),some ((.lst .str),.no)]⟩),(17,.t (.lst .str)),(19,.t (.lst .str)),(20,.t (.lst .str)),(23,.t (.lst (.nm .Sel))),(24,.t (.lst (.nm .Sel))),(26,.t (.lst (.int .i64))),(28,.t (.lst (.int .i64))),(29,.t (.lst (.int .i64))),(31,.t (.lst .str)),(33,.t (.lst .str)),(34,.t (.lst .str)),(36,.t (.lst (.nm .Stp))),(37,.t (.nm .Stp)),(38,.t (.lst (.nm .Stp))),(39,.t (.lst (.nm .Stp))),(11,.t (.int .i64)),(12,.t (.int .i64)),(40,.t (.lst (.nm .Stp)))]
def c80:CC :=
 .seq (.reg [0] [O 2 (.mv (.c (.sl 2 [])))])
 (.seq (.reg [0,3] [O 13 (.mv (.t 0)),O 14 (.call 33 [(.t 13),(.c (.int .i64 3))]),O 15 (.bin .add (.c (.int .i64 1)) (.t 14)),O 3 (.mv (.t 15))])
 (.seq (.reg [0,3,4] [O 16 (.bsl0),O 4 (.mv (.t 16))])
 (.seq (.seq (.reg [0,3,4,5] [O 5 (.mv (.c (.int .i64 0)))])
 (.block 0 (.lp false 0 [4,5] [0,3] (.seq (.seq (.reg [0,3,4,5,19] [O 17 (.mv (.t 5)),O 18 (.mv (.t 3)),O 19 (.bin .lss (.t 17) (.t 18))])
 (.cond (.t 19) (.skip) (.exit 0)))
 (.seq (.block 1 (.seq (.reg [0,3,4,5,6] [O 22 (.bsl 1 [(.c (.str [101,97,115,116])),(.c (.str [119,101,115,116])),(.c (.str [110,111,114,116,104]))]),O 23 (.mv (.t 5)),O 24 (.ia 1 (.t 22) (.t 23)),O 25 (.load none (.t 24)),O 6 (.mv (.t 25))])
 (.reg [0,3,4,5] [O 26 (.mv (.t 4)),O 27 (.mv (.t 6)),O 28 (.mv (.t 5)),O 29 (.call 95 [(.t 28)]),O 30 (.bin .add (.c (.str [110])) (.t 29)),O 31 (.build [(.str []),(.str []),(.bool false),(.bool false),(.bool false),(.bool false),(.bool false),.sl 1 []] [(0,1,(.t 30)),(1,1,(.c (.str [105,110,116])))]),O 32 (.bslm 8 [(.t 31)]),O 33 (.build [(.str []),(.str []),.sl 8 []] [(0,1,(.c (.str [113,117,101,114,121]))),(2,1,(.t 32))]),O 34 (.bslm 3 [(.t 33)]),O 35 (.build [(.str []),.sl 3 []] [(0,1,(.t 27)),(1,1,(.t 34))]),O 36 (.bslm 2 [(.t 35)]),O 37 (.app 2 (.t 26) (.t 36)),O 4 (.mv (.t 37))])))
 (.reg [0,3,4,5] [O 20 (.mv (.t 5)),O 21 (.bin .add (.t 20) (.c (.int .i64 1))),O 5 (.mv (.t 21))]))))))
 (.seq (.reg [0,3,4,7] [O 38 (.call 84 []),O 7 (.mv (.t 38))])
 (.seq (.reg [0,3,4,7,8] [O 39 (.mv (.t 0)),O 40 (.mv (.t 3)),O 41 (.call 33 [(.t 39),(.t 40)]),O 8 (.mv (.t 41))])
 (.seq (.seq (.reg [0,3,4,7,8,9] [O 9 (.mv (.c (.int .i64 0)))])
 (.block 2 (.lp false 2 [9] [0,3,4,7,8] (.seq (.seq (.reg [0,3,4,7,8,9,45] [O 42 (.mv (.t 9)),O 43 (.mv (.t 7)),O 44 (.lenl (.t 43)),O 45 (.bin .lss (.t 42) (.t 44))])
 (.cond (.t 45) (.skip) (.exit 2)))
 (.seq (.block 3 (.seq (.reg [0,3,4,7,8,9,10] [O 10 (.mv (.c (.int .i64 0)))])
 (.block 4 (.lp false 4 [10] [0,3,4,7,8,9] (.seq (.seq (.reg [0,3,4,7,8,9,10,55] [O 48 (.mv (.t 10)),O 49 (.mv (.t 7)),O 50 (.mv (.t 9)),O 51 (.ia 3 (.t 49) (.t 50)),O 52 (.fa 2 (.t 51)),O 53 (.load none (.t 52)),O 54 (.lenl (.t 53)),O 55 (.bin .lss (.t 48) (.t 54))])
 (.cond (.t 55) (.skip) (.exit 4)))
 (.seq (.block 5 (.seq (.reg [0,3,4,7,8,9,10,11] [O 58 (.mv (.t 7)),O 59 (.mv (.t 9)),O 60 (.ia 3 (.t 58) (.t 59)),O 61 (.fa 2 (.t 60)),O 62 (.load none (.t 61)),O 63 (.mv (.t 10)),O 64 (.ia 8 (.t 62) (.t 63)),O 65 (.load (some 8) (.t 64)),O 11 (.alloc [(.str []),(.str []),(.bool false),(.bool false),(.bool false),(.bool false),(.bool false),.e0]),.mk none none (.store 8 (.t 11) (.t 65))])
 (.seq (.seq (.reg [0,3,4,7,8,9,10,11,88] [O 66 (.fa 0 (.t 11)),O 67 (.load none (.t 66)),O 68 (.bin .eql (.t 67) (.c (.str [105,100]))),O 69 (.mv (.t 68)),.mk (some 70) (some (69,false)) (.fa 0 (.t 11)),.mk (some 71) (some (69,false)) (.load none (.t 70)),.mk (some 72) (some (69,false)) (.bin .eql (.t 71) (.c (.str [98,111,100,121]))),O 73 (.pick (.t 69) (.c (.bool true)) (.t 72)),O 74 (.mv (.t 73)),.mk (some 75) (some (74,false)) (.fa 0 (.t 11)),.mk (some 76) (some (74,false)) (.load none (.t 75)),.mk (some 77) (some (74,false)) (.bin .neq (.t 76) (.c (.str [97,103,101]))),.mk (some 78) (some (74,false)) (.mv (.t 77)),.mk (some 79) (some (78,true)) (.fa 0 (.t 11)),.mk (some 80) (some (78,true)) (.load none (.t 79)),.mk (some 81) (some (78,true)) (.bin .neq (.t 80) (.c (.str [112,114,105,99,101]))),.mk (some 82) (some (74,false)) (.pick (.t 78) (.t 81) (.c (.bool false))),.mk (some 83) (some (74,false)) (.mv (.t 82)),.mk (some 84) (some (83,true)) (.mv (.t 0)),.mk (some 85) (some (83,true)) (.call 33 [(.t 84),(.c (.int .i64 7))]),.mk (some 86) (some (83,true)) (.bin .eql (.t 85) (.c (.int .i64 0))),.mk (some 87) (some (74,false)) (.pick (.t 83) (.t 86) (.c (.bool false))),O 88 (.pick (.t 74) (.c (.bool true)) (.t 87))])
 (.cond (.t 88) (.exit 5) (.skip)))
 (.seq (.reg [0,3,4,7,8,9,10,11,12] [O 89 (.mv (.t 0)),O 90 (.mv (.t 3)),O 91 (.call 33 [(.t 89),(.t 90)]),O 12 (.mv (.t 91))])
 (.seq (.seq (.reg [0,3,4,7,8,9,10,11,12,107] [O 92 (.fa 1 (.t 11)),O 93 (.load none (.t 92)),O 94 (.bin .eql (.t 93) (.c (.str [110,111,116,101]))),O 95 (.mv (.t 94)),.mk (some 96) (some (95,false)) (.mv (.t 7)),.mk (some 97) (some (95,false)) (.mv (.t 9)),.mk (some 98) (some (95,false)) (.ia 3 (.t 96) (.t 97)),.mk (some 99) (some (95,false)) (.fa 0 (.t 98)),.mk (some 100) (some (95,false)) (.load none (.t 99)),.mk (some 101) (some (95,false)) (.bin .eql (.t 100) (.c (.str [110,111,116,101]))),O 102 (.pick (.t 95) (.c (.bool true)) (.t 101)),O 103 (.mv (.t 102)),.mk (some 104) (some (103,true)) (.mv (.t 0)),.mk (some 105) (some (103,true)) (.call 33 [(.t 104),(.c (.int .i64 12))]),.mk (some 106) (some (103,true)) (.bin .gtr (.t 105) (.c (.int .i64 0))),O 107 (.pick (.t 103) (.t 106) (.c (.bool false)))])
 (.jn false [12] [0,3,4,7,8,9,10,11] (.cond (.t 107) (.reg [0,3,4,7,8,9,10,11,12] [O 108 (.mv (.t 8)),O 12 (.mv (.t 108))]) (.skip))))
 (.seq (.reg [0,3,4,7,8,9,10,11,12] [O 109 (.mv (.t 0)),O 110 (.call 33 [(.t 109),(.c (.int .i64 16))]),O 111 (.bin .eql (.t 110) (.c (.int .i64 0))),O 112 (.fa 5 (.t 11)),.mk none none (.store 1 (.t 112) (.t 111))])
 (.seq (.seq (.reg [0,3,4,7,8,9,10,11,12,126] [O 113 (.fa 7 (.t 11)),O 114 (.load none (.t 113)),O 115 (.lenl (.t 114)),O 116 (.bin .eql (.t 115) (.c (.int .i64 0))),O 117 (.mv (.t 116)),.mk (some 118) (some (117,false)) (.mv (.t 0)),.mk (some 119) (some (117,false)) (.call 33 [(.t 118),(.c (.int .i64 8))]),.mk (some 120) (some (117,false)) (.bin .eql (.t 119) (.c (.int .i64 0))),O 121 (.pick (.t 117) (.c (.bool true)) (.t 120)),O 122 (.mv (.t 121)),.mk (some 123) (some (122,true)) (.mv (.t 0)),.mk (some 124) (some (122,true)) (.call 33 [(.t 123),(.c (.int .i64 5))]),.mk (some 125) (some (122,true)) (.bin .eql (.t 124) (.c (.int .i64 0))),O 126 (.pick (.t 122) (.t 125) (.c (.bool false)))])
 (.jn false [] [0,3,4,7,8,9,10,11,12] (.cond (.t 126) (.seq (.reg [0,3,4,7,8,9,10,11,12] [O 127 (.fa 6 (.t 11)),.mk none none (.store 1 (.t 127) (.c (.bool true)))])
 (.regd [0,3,4,7,8,9,10,11,12] [0,1,2,3,4,5,6,7,8,9,10,11,12,13,14,15,16,17,18,19,20] [0,0,2,0,14,0,0,64,0,448,992,2016,0,0,12288,28672,61440,0,262112,524287,1048575] [0,0,0,0,0,0,0,0,0,0,0,1,0,0,0,0,1,1,4,0,4] [O 128 (.mv (.t 4)),O 129 (.mv (.t 12)),O 130 (.bin .add (.t 129) (.c (.int .i64 1))),O 131 (.mv (.t 3)),O 132 (.bin .rem (.t 130) (.t 131)),O 133 (.mv (.t 4)),O 134 (.mv (.t 12)),O 135 (.bin .add (.t 134) (.c (.int .i64 1))),O 136 (.mv (.t 3)),O 137 (.bin .rem (.t 135) (.t 136)),O 138 (.ia 2 (.t 133) (.t 137)),O 139 (.load (some 2) (.t 138)),O 140 (.mv (.t 7)),O 141 (.mv (.t 9)),O 142 (.ia 3 (.t 140) (.t 141)),O 143 (.fa 0 (.t 142)),O 144 (.load none (.t 143)),O 145 (.load (some 8) (.t 11)),O 146 (.call 96 [(.t 139),(.t 144),(.t 145)]),O 147 (.ia 2 (.t 128) (.t 132)),.mk none none (.store 2 (.t 147) (.t 146))])) (.skip))))
 (.regd [0,3,4,7,8,9,10] [0,1,2,3,4,5,6,7,8,9,10,11,12,13,14] [0,0,0,0,12,28,0,0,192,448,960,0,4092,8191,16383] [0,0,0,0,0,1,0,0,0,0,1,1,4,0,4] [O 148 (.mv (.t 4)),O 149 (.mv (.t 12)),O 150 (.mv (.t 4)),O 151 (.mv (.t 12)),O 152 (.ia 2 (.t 150) (.t 151)),O 153 (.load (some 2) (.t 152)),O 154 (.mv (.t 7)),O 155 (.mv (.t 9)),O 156 (.ia 3 (.t 154) (.t 155)),O 157 (.fa 0 (.t 156)),O 158 (.load none (.t 157)),O 159 (.load (some 8) (.t 11)),O 160 (.call 96 [(.t 153),(.t 158),(.t 159)]),O 161 (.ia 2 (.t 148) (.t 149)),.mk none none (.store 2 (.t 161) (.t 160))]))))))))
 (.reg [0,3,4,7,8,9,10] [O 56 (.mv (.t 10)),O 57 (.bin .add (.t 56) (.c (.int .i64 1))),O 10 (.mv (.t 57))])))))))
 (.reg [0,3,4,7,8,9] [O 46 (.mv (.t 9)),O 47 (.bin .add (.t 46) (.c (.int .i64 1))),O 9 (.mv (.t 47))]))))))
 (.seq (.reg [2] [O 162 (.mv (.t 4)),O 2 (.mv (.t 162))])
 (.ret))))))))
def cy80:List (Nat×An):=[(2,.t (.lst (.nm .Part))),(3,.t (.int .i64)),(16,.o (.nm .Part) (.at [(1,.at [(2,.no)])])),(4,.o (.nm .Part) (.at [(1,.at [(2,.no)])])),(5,.t (.int .i64)),(22,.t (.lst .str)),(31,.t (.nm .Field)),(32,.t (.lst (.nm .Field))),(33,.t (.nm .Typ)),(34,.o (.nm .Typ) (.at [(2,.no)])),(35,.t (.nm .Part)),(36,.o (.nm .Part) (.at [(1,.at [(2,.no)])])),(37,.o (.nm .Part) (.at [(1,.at [(2,.no)])])),(7,.t (.lst (.nm .Typ))),(8,.t (.int .i64)),(9,.t (.int .i64)),(10,.t (.int .i64)),(65,.t (.nm .Field)),(11,.cells ⟨some .Field,[some (.str,.no),some (.str,.no),some (.bool,.no),some (.bool,.no),some (.bool,.no),some (.bool,.no),some (.bool,.no),some ((.lst .str),.no)]⟩),(88,.t .bool),(12,.t (.int .i64)),(107,.t .bool),(126,.t .bool),(139,.t (.nm .Part)),(145,.t (.nm .Field)),(153,.t (.nm .Part)),(159,.t (.nm .Field))]
def c81:CC :=
 .seq (.reg [0] [O 2 (.mv (.c (.bool false))),O 3 (.mv (.c (.sl 1 [])))])
 (.seq (.reg [0,4,5] [O 8 (.mv (.t 0)),O 9 (.call 70 [(.t 8)]),O 7 (.mv (.t 9)),O 10 (.ext (.t 7) 0),O 11 (.ext (.t 7) 1),O 4 (.alloc [(.str []),.e0,.e0]),O 5 (.alloc [(.int .i64 0),(.str []),(.str []),(.int .i64 0)]),.mk none none (.store 3 (.t 4) (.t 10)),.mk none none (.store 4 (.t 5) (.t 11))])
 (.frz 4 0 (.frz 5 0 (.seq (.seq (.reg [0,4,14] [O 12 (.fa 3 (.t 5)),O 13 (.load none (.t 12)),O 14 (.bin .neq (.t 13) (.c (.int .i64 0)))])
 (.cond (.t 14) (.seq (.reg [2,3] [O 15 (.bsl 1 []),O 2 (.mv (.c (.bool false))),O 3 (.mv (.t 15))])
 (.ret)) (.skip)))
 (.seq (.frz 4 0 (.reg [6] [O 16 (.mv (.t 0)),O 17 (.fa 0 (.t 4)),O 18 (.load (some 2) (.t 17)),O 19 (.call 97 [(.t 16),(.t 18)]),O 6 (.mv (.t 19))]))
 (.seq (.frz 6 0 (.regd [2,3] [0,1,2,3,4,5,6,7,8,9,10,11,12,13] [0,1,3,7,15,31,0,0,128,384,896,1984,4095,8191] [0,0,0,1,0,0,0,0,0,0,1,3,0,0] [O 20 (.mv (.t 6)),O 21 (.nilc (.t 20)),O 22 (.fa 2 (.t 21)),O 23 (.load none (.t 22)),O 24 (.lenl (.t 23)),O 25 (.bin .eql (.t 24) (.c (.int .i64 0))),O 26 (.bsl0),O 27 (.mv (.t 6)),O 28 (.nilc (.t 27)),O 29 (.fa 2 (.t 28)),O 30 (.load none (.t 29)),O 31 (.app 1 (.t 26) (.t 30)),O 2 (.mv (.t 25)),O 3 (.mv (.t 31))]))
 (.ret)))))))
def cy81:List (Nat×An):=[(2,.t .bool),(3,.t (.lst .str)),(4,.cells ⟨some .Chart,[some (.str,.no),some ((.lst (.nm .Typ)),.no),some ((.lst (.nm .Own)),.no)]⟩),(5,.cells ⟨some .CFault,[some ((.int .i64),.no),some (.str,.no),some (.str,.no),some ((.int .i64),.no)]⟩),(15,.t (.lst .str)),(18,.t (.nm .Part)),(26,.t (.lst .str)),(31,.t (.lst .str))]
def c82:CC :=
 .seq (.reg [0,2,3,5] [O 5 (.boxi 2 (.t 1)),O 8 (.mv (.c (.sl 5 [])))])
 (.seq (.reg [0,2,3,5,9] [O 17 (.bsl0),O 9 (.mv (.t 17))])
 (.seq (.reg [0,2,3,5,9,10] [O 18 (.load (some 2) (.t 5)),O 19 (.mv (.t 2)),O 20 (.call 98 [(.t 18),(.t 19)]),O 10 (.mv (.t 20))])
 (.seq (.seq (.reg [0,2,3,5,9,10,26] [O 21 (.mv (.t 10)),O 22 (.bin .lss (.t 21) (.c (.int .i64 0))),O 23 (.mv (.t 22)),.mk (some 24) (some (23,false)) (.mv (.t 3)),.mk (some 25) (some (23,false)) (.bin .gtr (.t 24) (.c (.int .i64 5))),O 26 (.pick (.t 23) (.c (.bool true)) (.t 25))])
 (.cond (.t 26) (.seq (.reg [8] [O 27 (.mv (.t 9)),O 8 (.mv (.t 27))])
 (.ret)) (.skip)))
 (.seq (.reg [0,2,3,5,9,11] [O 28 (.fa 1 (.t 5)),O 29 (.load none (.t 28)),O 30 (.mv (.t 10)),O 31 (.ia 3 (.t 29) (.t 30)),O 32 (.load (some 3) (.t 31)),O 11 (.alloc [(.str []),(.str []),.e0]),.mk none none (.store 3 (.t 11) (.t 32))])
 (.frz 11 0 (.seq (.seq (.reg [0,2,3,5,9,11,12] [O 33 (.mv (.t 0)),O 34 (.call 33 [(.t 33),(.c (.int .i64 3))]),O 35 (.bin .add (.c (.int .i64 1)) (.t 34)),O 12 (.mv (.t 35))])
 (.block 0 (.lp false 0 [9,12] [0,2,3,5,11] (.seq (.seq (.reg [0,2,3,5,9,11,12,37] [O 36 (.mv (.t 12)),O 37 (.bin .gtr (.t 36) (.c (.int .i64 0)))])
 (.cond (.t 37) (.skip) (.exit 0)))
 (.seq (.block 1 (.seq (.regd [0,2,3,5,9,11,12,13] [0,1,2,3,4,5,6,7,8,9,10] [0,1,0,0,8,24,60,127,255,0,1023] [0,0,0,0,0,0,4,0,0,4,4] [O 40 (.fa 2 (.t 11)),O 41 (.load none (.t 40)),O 42 (.mv (.t 0)),O 43 (.fa 2 (.t 11)),O 44 (.load none (.t 43)),O 45 (.lenl (.t 44)),O 46 (.call 33 [(.t 42),(.t 45)]),O 47 (.ia 8 (.t 41) (.t 46)),O 48 (.load (some 8) (.t 47)),O 13 (.alloc [(.str []),(.str []),(.bool false),(.bool false),(.bool false),(.bool false),(.bool false),.e0]),.mk none none (.store 8 (.t 13) (.t 48))])
 (.frz 13 0 (.seq (.reg [0,2,3,5,9,11,12,13,14] [O 49 (.fa 0 (.t 13)),O 50 (.load none (.t 49)),O 51 (.build [(.str []),(.str []),(.bool false),(.int .i64 0),.sl 5 []] [(1,1,(.t 50))]),O 14 (.alloc [(.str []),(.str []),(.bool false),(.int .i64 0),.e0]),.mk none none (.store 5 (.t 14) (.t 51))])
 (.seq (.seq (.reg [0,2,3,5,9,11,12,13,14,54] [O 52 (.mv (.t 0)),O 53 (.call 33 [(.t 52),(.c (.int .i64 5))]),O 54 (.bin .eql (.t 53) (.c (.int .i64 0)))])
 (.jn false [] [0,2,3,5,9,11,12,13,14] (.cond (.t 54) (.reg [0,2,3,5,9,11,12,13,14] [O 55 (.mv (.t 0)),O 56 (.bsl 1 [(.c (.str [97])),(.c (.str [98])),(.c (.str [99]))]),O 57 (.call 99 [(.t 55),(.t 56)]),O 58 (.fa 0 (.t 14)),.mk none none (.store 1 (.t 58) (.t 57))]) (.skip))))
 (.seq (.seq (.reg [0,2,3,5,9,11,12,13,14,62] [O 59 (.fa 1 (.t 13)),O 60 (.load none (.t 59)),O 61 (.call 100 [(.t 60)]),O 62 (.not (.t 61))])
 (.jn true [] [0,2,3,5,9,11,12,13,14] (.cond (.t 62) (.seq (.frz 13 0 (.reg [0,2,3,5,9,11,12,13,14] [O 63 (.mv (.t 0)),O 64 (.load (some 2) (.t 5)),O 65 (.fa 1 (.t 13)),O 66 (.load none (.t 65)),O 67 (.mv (.t 3)),O 68 (.bin .add (.t 67) (.c (.int .i64 1))),O 69 (.call 82 [(.t 63),(.t 64),(.t 66),(.t 68)]),O 70 (.fa 4 (.t 14)),.mk none none (.store 1 (.t 70) (.t 69))]))
 (.seq (.seq (.reg [0,2,3,5,9,11,12,13,14,74] [O 71 (.fa 4 (.t 14)),O 72 (.load none (.t 71)),O 73 (.lenl (.t 72)),O 74 (.bin .eql (.t 73) (.c (.int .i64 0)))])
 (.cond (.t 74) (.exit 1) (.skip)))
 (.seq (.reg [0,2,3,5,9,11,12,13,14,86] [O 75 (.mv (.t 2)),O 76 (.bin .eql (.t 75) (.c (.str [113,117,101,114,121]))),O 77 (.mv (.t 76)),.mk (some 78) (some (77,true)) (.fa 2 (.t 13)),.mk (some 79) (some (77,true)) (.load none (.t 78)),.mk (some 80) (some (77,true)) (.not (.t 79)),O 81 (.pick (.t 77) (.t 80) (.c (.bool false))),O 82 (.mv (.t 81)),.mk (some 83) (some (82,true)) (.mv (.t 0)),.mk (some 84) (some (82,true)) (.call 33 [(.t 83),(.c (.int .i64 2))]),.mk (some 85) (some (82,true)) (.bin .eql (.t 84) (.c (.int .i64 0))),O 86 (.pick (.t 82) (.t 85) (.c (.bool false)))])
 (.jn false [] [0,2,3,5,9,11,12,13,14] (.cond (.t 86) (.seq (.reg [0,2,3,5,9,11,12,13,14] [O 87 (.fa 2 (.t 14)),.mk none none (.store 1 (.t 87) (.c (.bool true)))])
 (.reg [0,2,3,5,9,11,12,13,14] [O 88 (.mv (.t 0)),O 89 (.call 33 [(.t 88),(.c (.int .i64 5))]),O 90 (.fa 3 (.t 14)),.mk none none (.store 1 (.t 90) (.t 89))])) (.skip)))))) (.skip))))
 (.seq (.seq (.reg [0,2,3,5,9,11,12,14,97] [O 91 (.fa 5 (.t 13)),O 92 (.load none (.t 91)),O 93 (.mv (.t 92)),.mk (some 94) (some (93,true)) (.mv (.t 0)),.mk (some 95) (some (93,true)) (.call 33 [(.t 94),(.c (.int .i64 8))]),.mk (some 96) (some (93,true)) (.bin .gtr (.t 95) (.c (.int .i64 0))),O 97 (.pick (.t 93) (.t 96) (.c (.bool false)))])
 (.cond (.t 97) (.exit 1) (.skip)))
 (.seq (.reg [0,2,3,5,9,11,12,14,15] [O 15 (.mv (.c (.bool false)))])
 (.seq (.seq (.reg [0,2,3,5,9,11,12,14,15,16] [O 16 (.mv (.c (.int .i64 0)))])
 (.block 2 (.lp false 2 [15,16] [0,2,3,5,9,11,12,14] (.seq (.seq (.reg [0,2,3,5,9,11,12,14,15,16,101] [O 98 (.mv (.t 16)),O 99 (.mv (.t 9)),O 100 (.lenl (.t 99)),O 101 (.bin .lss (.t 98) (.t 100))])
 (.cond (.t 101) (.skip) (.exit 2)))
 (.seq (.block 3 (.regd [0,2,3,5,9,11,12,14,15,16] [0,1,2,3,4,5,6,7,8,9,10,11] [0,1,3,3,15,31,63,3,255,511,1023,2047] [0,0,0,0,0,1,2,1,2,0,0,0] [O 104 (.mv (.t 15)),O 105 (.mv (.t 104)),.mk (some 106) (some (105,false)) (.mv (.t 9)),.mk (some 107) (some (105,false)) (.mv (.t 16)),.mk (some 108) (some (105,false)) (.ia 5 (.t 106) (.t 107)),.mk (some 109) (some (105,false)) (.load (some 5) (.t 108)),.mk (some 110) (some (105,false)) (.call 101 [(.t 109)]),.mk (some 111) (some (105,false)) (.load (some 5) (.t 14)),.mk (some 112) (some (105,false)) (.call 101 [(.t 111)]),.mk (some 113) (some (105,false)) (.bin .eql (.t 110) (.t 112)),O 114 (.pick (.t 105) (.c (.bool true)) (.t 113)),O 15 (.mv (.t 114))]))
 (.reg [0,2,3,5,9,11,12,14,15,16] [O 102 (.mv (.t 16)),O 103 (.bin .add (.t 102) (.c (.int .i64 1))),O 16 (.mv (.t 103))]))))))
 (.seq (.reg [0,2,3,5,9,11,12,14,123] [O 115 (.mv (.t 15)),O 116 (.not (.t 115)),O 117 (.mv (.t 116)),.mk (some 118) (some (117,true)) (.fa 0 (.t 14)),.mk (some 119) (some (117,true)) (.load none (.t 118)),.mk (some 120) (some (117,true)) (.fa 1 (.t 14)),.mk (some 121) (some (117,true)) (.load none (.t 120)),.mk (some 122) (some (117,true)) (.bin .neq (.t 119) (.t 121)),O 123 (.pick (.t 117) (.t 122) (.c (.bool false)))])
 (.jn false [9] [0,2,3,5,11,12] (.cond (.t 123) (.frz 14 0 (.reg [0,2,3,5,9,11,12] [O 124 (.mv (.t 9)),O 125 (.load (some 5) (.t 14)),O 126 (.bsl 5 [(.t 125)]),O 127 (.app 5 (.t 124) (.t 126)),O 9 (.mv (.t 127))])) (.skip)))))))))))))
 (.reg [0,2,3,5,9,11,12] [O 38 (.mv (.t 12)),O 39 (.bin .sub (.t 38) (.c (.int .i64 1))),O 12 (.mv (.t 39))]))))))
 (.seq (.reg [8] [O 128 (.mv (.t 9)),O 8 (.mv (.t 128))])
 (.ret))))))))
def cy82:List (Nat×An):=[(5,.cells ⟨some .Part,[some (.str,.no),some ((.lst (.nm .Typ)),.no)]⟩),(8,.t (.lst (.nm .Sel))),(17,.t (.lst (.nm .Sel))),(9,.t (.lst (.nm .Sel))),(18,.t (.nm .Part)),(19,.t .str),(20,.t (.int .i64)),(10,.t (.int .i64)),(21,.t (.int .i64)),(22,.t .bool),(23,.t .bool),(24,.t (.int .i64)),(25,.t .bool),(26,.t .bool),(27,.t (.lst (.nm .Sel))),(29,.t (.lst (.nm .Typ))),(30,.t (.int .i64)),(32,.t (.nm .Typ)),(11,.cells ⟨some .Typ,[some (.str,.no),some (.str,.no),some ((.lst (.nm .Field)),.no)]⟩),(34,.t (.int .i64)),(35,.t (.int .i64)),(12,.t (.int .i64)),(36,.t (.int .i64)),(37,.t .bool),(41,.t (.lst (.nm .Field))),(44,.t (.lst (.nm .Field))),(45,.t (.int .i64)),(46,.t (.int .i64)),(48,.t (.nm .Field)),(13,.cells ⟨some .Field,[some (.str,.no),some (.str,.no),some (.bool,.no),some (.bool,.no),some (.bool,.no),some (.bool,.no),some (.bool,.no),some ((.lst .str),.no)]⟩),(50,.t .str),(51,.t (.nm .Sel)),(14,.cells ⟨some .Sel,[some (.str,.no),some (.str,.no),some (.bool,.no),some ((.int .i64),.no),some ((.lst (.nm .Sel)),.no)]⟩),(53,.t (.int .i64)),(54,.t .bool),(56,.t (.lst .str)),(57,.t .str),(60,.t .str),(61,.t .bool),(62,.t .bool),(64,.t (.nm .Part)),(66,.t .str),(67,.t (.int .i64)),(68,.t (.int .i64)),(69,.t (.lst (.nm .Sel))),(72,.t (.lst (.nm .Sel))),(73,.t (.int .i64)),(74,.t .bool),(75,.t .str),(76,.t .bool),(77,.t .bool),(79,.t .bool),(80,.t .bool),(81,.t .bool),(82,.t .bool),(84,.t (.int .i64)),(85,.t .bool),(86,.t .bool),(89,.t (.int .i64)),(92,.t .bool),(93,.t .bool),(95,.t (.int .i64)),(96,.t .bool),(97,.t .bool),(15,.t .bool),(16,.t (.int .i64)),(98,.t (.int .i64)),(99,.t (.lst (.nm .Sel))),(100,.t (.int .i64)),(101,.t .bool),(104,.t .bool),(105,.t .bool),(106,.t (.lst (.nm .Sel))),(107,.t (.int .i64)),(109,.t (.nm .Sel)),(110,.t .str),(111,.t (.nm .Sel)),(112,.t .str),(113,.t .bool),(114,.t .bool),(102,.t (.int .i64)),(103,.t (.int .i64)),(115,.t .bool),(116,.t .bool),(117,.t .bool),(119,.t .str),(121,.t .str),(122,.t .bool),(123,.t .bool),(124,.t (.lst (.nm .Sel))),(125,.t (.nm .Sel)),(126,.t (.lst (.nm .Sel))),(127,.t (.lst (.nm .Sel))),(38,.t (.int .i64)),(39,.t (.int .i64)),(128,.t (.lst (.nm .Sel)))]
def c83:CC :=
 .seq (.reg [0] [O 2 (.mv (.c (.bool false)))])
 (.seq (.reg [2] [O 3 (.mv (.t 0)),O 4 (.lenl (.t 3)),O 5 (.bin .gtr (.t 4) (.c (.int .i64 0))),O 6 (.mv (.t 5)),.mk (some 7) (some (6,true)) (.mv (.t 0)),.mk (some 8) (some (6,true)) (.call 102 [(.t 7),(.c (.int .i64 1)),(.c (.int .i64 24))]),.mk (some 9) (some (6,true)) (.bin .geq (.t 8) (.c (.int .i64 0))),O 10 (.pick (.t 6) (.t 9) (.c (.bool false))),O 11 (.mv (.t 10)),.mk (some 12) (some (11,true)) (.mv (.t 0)),.mk (some 13) (some (11,true)) (.call 103 [(.t 12)]),.mk (some 14) (some (11,true)) (.lens (.t 13)),.mk (some 15) (some (11,true)) (.bin .leq (.t 14) (.c (.int .i64 400))),O 16 (.pick (.t 11) (.t 15) (.c (.bool false))),O 2 (.mv (.t 16))])
 (.ret))
def cy83:List (Nat×An):=[(2,.t .bool)]
def c84:CC :=
 .seq (.reg [] [O 0 (.mv (.c (.sl 3 [])))])
 (.seq (.reg [1] [O 5 (.build [(.str []),(.str []),(.bool false),(.bool false),(.bool false),(.bool false),(.bool false),.sl 1 []] [(0,1,(.c (.str [105,100]))),(1,1,(.c (.str [105,110,116]))),(3,1,(.c (.bool true)))]),O 6 (.build [(.str []),(.str []),(.bool false),(.bool false),(.bool false),(.bool false),(.bool false),.sl 1 []] [(0,1,(.c (.str [110,97,109,101]))),(1,1,(.c (.str [116,101,120,116]))),(3,1,(.c (.bool true)))]),O 7 (.build [(.str []),(.str []),(.bool false),(.bool false),(.bool false),(.bool false),(.bool false),.sl 1 []] [(0,1,(.c (.str [98,111,115,115]))),(1,1,(.c (.str [117,115,101,114])))]),O 8 (.build [(.str []),(.str []),(.bool false),(.bool false),(.bool false),(.bool false),(.bool false),.sl 1 []] [(0,1,(.c (.str [97,103,101]))),(1,1,(.c (.str [105,110,116])))]),O 9 (.build [(.str []),(.str []),(.bool false),(.bool false),(.bool false),(.bool false),(.bool false),.sl 1 []] [(0,1,(.c (.str [108,105,107,101,115]))),(1,1,(.c (.str [105,116,101,109]))),(2,1,(.c (.bool true)))]),O 10 (.bsl 1 [(.c (.str [97,103,101]))]),O 11 (.build [(.str []),(.str []),(.bool false),(.bool false),(.bool false),(.bool false),(.bool false),.sl 1 []] [(0,1,(.c (.str [114,97,110,107]))),(1,1,(.c (.str [105,110,116]))),(7,1,(.t 10))]),O 12 (.build [(.str []),(.str []),(.bool false),(.bool false),(.bool false),(.bool false),(.bool false),.sl 1 []] [(0,1,(.c (.str [110,111,116,101]))),(1,1,(.c (.str [110,111,116,101])))]),O 13 (.bsl 8 [(.t 5),(.t 6),(.t 7),(.t 8),(.t 9),(.t 11),(.t 12)]),O 14 (.build [(.str []),(.str []),.sl 8 []] [(0,1,(.c (.str [117,115,101,114]))),(1,1,(.c (.str [105,100]))),(2,1,(.t 13))]),O 1 (.alloc [(.str []),(.str []),.e0]),.mk none none (.store 3 (.t 1) (.t 14))])
 (.frz 1 0 (.seq (.reg [1,2] [O 15 (.build [(.str []),(.str []),(.bool false),(.bool false),(.bool false),(.bool false),(.bool false),.sl 1 []] [(0,1,(.c (.str [105,100]))),(1,1,(.c (.str [105,110,116]))),(3,1,(.c (.bool true)))]),O 16 (.build [(.str []),(.str []),(.bool false),(.bool false),(.bool false),(.bool false),(.bool false),.sl 1 []] [(0,1,(.c (.str [116,105,116,108,101]))),(1,1,(.c (.str [116,101,120,116])))]),O 17 (.build [(.str []),(.str []),(.bool false),(.bool false),(.bool false),(.bool false),(.bool false),.sl 1 []] [(0,1,(.c (.str [109,97,107,101,114]))),(1,1,(.c (.str [117,115,101,114]))),(3,1,(.c (.bool true)))]),O 18 (.build [(.str []),(.str []),(.bool false),(.bool false),(.bool false),(.bool false),(.bool false),.sl 1 []] [(0,1,(.c (.str [112,114,105,99,101]))),(1,1,(.c (.str [105,110,116])))]),O 19 (.build [(.str []),(.str []),(.bool false),(.bool false),(.bool false),(.bool false),(.bool false),.sl 1 []] [(0,1,(.c (.str [102,97,110,115]))),(1,1,(.c (.str [117,115,101,114]))),(2,1,(.c (.bool true))),(3,1,(.c (.bool true)))]),O 20 (.bsl 1 [(.c (.str [112,114,105,99,101]))]),O 21 (.build [(.str []),(.str []),(.bool false),(.bool false),(.bool false),(.bool false),(.bool false),.sl 1 []] [(0,1,(.c (.str [116,97,120]))),(1,1,(.c (.str [105,110,116]))),(7,1,(.t 20))]),O 22 (.build [(.str []),(.str []),(.bool false),(.bool false),(.bool false),(.bool false),(.bool false),.sl 1 []] [(0,1,(.c (.str [115,117,109,115]))),(1,1,(.c (.str [105,110,116]))),(2,1,(.c (.bool true)))]),O 23 (.bsl 8 [(.t 15),(.t 16),(.t 17),(.t 18),(.t 19),(.t 21),(.t 22)]),O 24 (.build [(.str []),(.str []),.sl 8 []] [(0,1,(.c (.str [105,116,101,109]))),(1,1,(.c (.str [105,100]))),(2,1,(.t 23))]),O 2 (.alloc [(.str []),(.str []),.e0]),.mk none none (.store 3 (.t 2) (.t 24))])
 (.frz 2 0 (.seq (.reg [1,2,3] [O 25 (.build [(.str []),(.str []),(.bool false),(.bool false),(.bool false),(.bool false),(.bool false),.sl 1 []] [(0,1,(.c (.str [98,111,100,121]))),(1,1,(.c (.str [116,101,120,116]))),(3,1,(.c (.bool true))),(6,1,(.c (.bool true)))]),O 26 (.build [(.str []),(.str []),(.bool false),(.bool false),(.bool false),(.bool false),(.bool false),.sl 1 []] [(0,1,(.c (.str [98,121]))),(1,1,(.c (.str [117,115,101,114])))]),O 27 (.bsl 8 [(.t 25),(.t 26)]),O 28 (.build [(.str []),(.str []),.sl 8 []] [(0,1,(.c (.str [110,111,116,101]))),(2,1,(.t 27))]),O 3 (.alloc [(.str []),(.str []),.e0]),.mk none none (.store 3 (.t 3) (.t 28))])
 (.frz 3 0 (.seq (.reg [1,2,3,4] [O 29 (.build [(.str []),(.str []),(.bool false),(.bool false),(.bool false),(.bool false),(.bool false),.sl 1 []] [(0,1,(.c (.str [117,115,101,114,115]))),(1,1,(.c (.str [117,115,101,114]))),(2,1,(.c (.bool true)))]),O 30 (.build [(.str []),(.str []),(.bool false),(.bool false),(.bool false),(.bool false),(.bool false),.sl 1 []] [(0,1,(.c (.str [102,105,114,115,116]))),(1,1,(.c (.str [117,115,101,114])))]),O 31 (.build [(.str []),(.str []),(.bool false),(.bool false),(.bool false),(.bool false),(.bool false),.sl 1 []] [(0,1,(.c (.str [105,116,101,109,115]))),(1,1,(.c (.str [105,116,101,109]))),(2,1,(.c (.bool true))),(3,1,(.c (.bool true)))]),O 32 (.build [(.str []),(.str []),(.bool false),(.bool false),(.bool false),(.bool false),(.bool false),.sl 1 []] [(0,1,(.c (.str [116,111,112]))),(1,1,(.c (.str [105,116,101,109])))]),O 33 (.build [(.str []),(.str []),(.bool false),(.bool false),(.bool false),(.bool false),(.bool false),.sl 1 []] [(0,1,(.c (.str [114,101,97,100,121]))),(1,1,(.c (.str [98,111,111,108])))]),O 34 (.bsl 8 [(.t 29),(.t 30),(.t 31),(.t 32),(.t 33)]),O 35 (.build [(.str []),(.str []),.sl 8 []] [(0,1,(.c (.str [113,117,101,114,121]))),(2,1,(.t 34))]),O 4 (.alloc [(.str []),(.str []),.e0]),.mk none none (.store 3 (.t 4) (.t 35))])
 (.frz 4 0 (.seq (.frz 1 0 (.frz 2 0 (.frz 3 0 (.frz 4 0 (.reg [0] [O 36 (.load (some 3) (.t 4)),O 37 (.load (some 3) (.t 1)),O 38 (.load (some 3) (.t 2)),O 39 (.load (some 3) (.t 3)),O 40 (.bsl 3 [(.t 36),(.t 37),(.t 38),(.t 39)]),O 0 (.mv (.t 40))])))))
 (.ret))))))))))
def cy84:List (Nat×An):=[(0,.t (.lst (.nm .Typ))),(5,.t (.nm .Field)),(6,.t (.nm .Field)),(7,.t (.nm .Field)),(8,.t (.nm .Field)),(9,.t (.nm .Field)),(10,.t (.lst .str)),(11,.t (.nm .Field)),(12,.t (.nm .Field)),(13,.t (.lst (.nm .Field))),(14,.t (.nm .Typ)),(1,.cells ⟨some .Typ,[some (.str,.no),some (.str,.no),some ((.lst (.nm .Field)),.no)]⟩),(15,.t (.nm .Field)),(16,.t (.nm .Field)),(17,.t (.nm .Field)),(18,.t (.nm .Field)),(19,.t (.nm .Field)),(20,.t (.lst .str)),(21,.t (.nm .Field)),(22,.t (.nm .Field)),(23,.t (.lst (.nm .Field))),(24,.t (.nm .Typ)),(2,.cells ⟨some .Typ,[some (.str,.no),some (.str,.no),some ((.lst (.nm .Field)),.no)]⟩),(25,.t (.nm .Field)),(26,.t (.nm .Field)),(27,.t (.lst (.nm .Field))),(28,.t (.nm .Typ)),(3,.cells ⟨some .Typ,[some (.str,.no),some (.str,.no),some ((.lst (.nm .Field)),.no)]⟩),(29,.t (.nm .Field)),(30,.t (.nm .Field)),(31,.t (.nm .Field)),(32,.t (.nm .Field)),(33,.t (.nm .Field)),(34,.t (.lst (.nm .Field))),(35,.t (.nm .Typ)),(4,.cells ⟨some .Typ,[some (.str,.no),some (.str,.no),some ((.lst (.nm .Field)),.no)]⟩),(36,.t (.nm .Typ)),(37,.t (.nm .Typ)),(38,.t (.nm .Typ)),(39,.t (.nm .Typ)),(40,.t (.lst (.nm .Typ)))]
def c85:CC :=
 .seq (.reg [0,2] [O 2 (.alloc [(.int .i64 0),(.str []),(.str []),(.int .i64 0)])])
 (.seq (.seq (.reg [0,2,17] [O 10 (.mv (.t 0)),O 11 (.lenl (.t 10)),O 12 (.bin .eql (.t 11) (.c (.int .i64 0))),O 13 (.mv (.t 12)),.mk (some 14) (some (13,false)) (.mv (.t 0)),.mk (some 15) (some (13,false)) (.lenl (.t 14)),.mk (some 16) (some (13,false)) (.bin .gtr (.t 15) (.c (.int .i64 4))),O 17 (.pick (.t 13) (.c (.bool true)) (.t 16))])
 (.cond (.t 17) (.seq (.reg [2] [O 18 (.build [(.int .i64 0),(.str []),(.str []),(.int .i64 0)] [(3,1,(.c (.int .i64 8)))]),.mk none none (.store 4 (.t 2) (.t 18))])
 (.ret)) (.skip)))
 (.seq (.seq (.reg [0,2,3] [O 3 (.mv (.c (.int .i64 0)))])
 (.block 0 (.lp true 0 [3] [0,2] (.seq (.seq (.reg [0,2,3,22] [O 19 (.mv (.t 3)),O 20 (.mv (.t 0)),O 21 (.lenl (.t 20)),O 22 (.bin .lss (.t 19) (.t 21))])
 (.cond (.t 22) (.skip) (.exit 0)))
 (.seq (.block 1 (.seq (.seq (.reg [0,2,3,31] [O 25 (.mv (.t 0)),O 26 (.mv (.t 3)),O 27 (.ia 2 (.t 25) (.t 26)),O 28 (.load (some 2) (.t 27)),O 29 (.call 87 [(.t 28)]),O 30 (.field 1 none (.t 29)),O 31 (.bin .neq (.t 30) (.c (.int .i64 0)))])
 (.cond (.t 31) (.seq (.reg [2] [O 32 (.mv (.t 3)),O 33 (.bin .add (.t 32) (.c (.int .i64 1))),O 34 (.build [(.int .i64 0),(.str []),(.str []),(.int .i64 0)] [(0,1,(.t 33)),(3,1,(.c (.int .i64 1)))]),.mk none none (.store 4 (.t 2) (.t 34))])
 (.ret)) (.skip)))
 (.seq (.reg [0,2,3,4] [O 4 (.mv (.c (.int .i64 0)))])
 (.block 2 (.lp true 2 [4] [0,2,3] (.seq (.seq (.reg [0,2,3,4,37] [O 35 (.mv (.t 4)),O 36 (.mv (.t 3)),O 37 (.bin .lss (.t 35) (.t 36))])
 (.cond (.t 37) (.skip) (.exit 2)))
 (.seq (.block 3 (.seq (.regd [0,2,3,4,50] [0,1,2,3,4,5,6,7,8,9,10] [0,0,3,7,15,0,0,96,224,480,1023] [0,0,0,0,1,0,0,0,0,1,0] [O 40 (.mv (.t 0)),O 41 (.mv (.t 4)),O 42 (.ia 2 (.t 40) (.t 41)),O 43 (.fa 0 (.t 42)),O 44 (.load none (.t 43)),O 45 (.mv (.t 0)),O 46 (.mv (.t 3)),O 47 (.ia 2 (.t 45) (.t 46)),O 48 (.fa 0 (.t 47)),O 49 (.load none (.t 48)),O 50 (.bin .eql (.t 44) (.t 49))])
 (.cond (.t 50) (.seq (.reg [2] [O 51 (.mv (.t 3)),O 52 (.bin .add (.t 51) (.c (.int .i64 1))),O 53 (.build [(.int .i64 0),(.str []),(.str []),(.int .i64 0)] [(0,1,(.t 52)),(3,1,(.c (.int .i64 2)))]),.mk none none (.store 4 (.t 2) (.t 53))])
 (.ret)) (.skip))))
 (.reg [0,2,3,4] [O 38 (.mv (.t 4)),O 39 (.bin .add (.t 38) (.c (.int .i64 1))),O 4 (.mv (.t 39))]))))))))
 (.reg [0,2,3] [O 23 (.mv (.t 3)),O 24 (.bin .add (.t 23) (.c (.int .i64 1))),O 3 (.mv (.t 24))]))))))
 (.seq (.seq (.reg [0,2,5] [O 5 (.mv (.c (.int .i64 0)))])
 (.block 4 (.lp true 4 [5] [0,2] (.seq (.seq (.reg [0,2,5,57] [O 54 (.mv (.t 5)),O 55 (.mv (.t 0)),O 56 (.lenl (.t 55)),O 57 (.bin .lss (.t 54) (.t 56))])
 (.cond (.t 57) (.skip) (.exit 4)))
 (.seq (.block 5 (.seq (.reg [0,2,5,6] [O 6 (.mv (.c (.int .i64 0)))])
 (.block 6 (.lp true 6 [6] [0,2,5] (.seq (.seq (.reg [0,2,5,6,67] [O 60 (.mv (.t 6)),O 61 (.mv (.t 0)),O 62 (.mv (.t 5)),O 63 (.ia 2 (.t 61) (.t 62)),O 64 (.fa 1 (.t 63)),O 65 (.load none (.t 64)),O 66 (.lenl (.t 65)),O 67 (.bin .lss (.t 60) (.t 66))])
 (.cond (.t 67) (.skip) (.exit 6)))
 (.seq (.block 7 (.seq (.reg [0,2,5,6,7] [O 70 (.mv (.t 0)),O 71 (.mv (.t 5)),O 72 (.ia 2 (.t 70) (.t 71)),O 73 (.fa 1 (.t 72)),O 74 (.load none (.t 73)),O 75 (.mv (.t 6)),O 76 (.ia 3 (.t 74) (.t 75)),O 77 (.load (some 3) (.t 76)),O 7 (.alloc [(.str []),(.str []),.e0]),.mk none none (.store 3 (.t 7) (.t 77))])
 (.frz 7 0 (.seq (.seq (.regd [0,2,5,6,7,89] [0,1,2,3,4,5,6,7,8,9,10,11] [0,1,3,7,15,31,15,15,143,463,1023,2047] [0,0,0,0,0,0,0,0,0,4,0,0] [O 78 (.fa 1 (.t 7)),O 79 (.load none (.t 78)),O 80 (.bin .neq (.t 79) (.c (.str []))),O 81 (.mv (.t 80)),.mk (some 82) (some (81,true)) (.fa 1 (.t 7)),.mk (some 83) (some (81,true)) (.load none (.t 82)),.mk (some 84) (some (81,true)) (.mv (.t 0)),.mk (some 85) (some (81,true)) (.fa 0 (.t 7)),.mk (some 86) (some (81,true)) (.load none (.t 85)),.mk (some 87) (some (81,true)) (.call 104 [(.t 84),(.t 86)]),.mk (some 88) (some (81,true)) (.bin .neq (.t 83) (.t 87)),O 89 (.pick (.t 81) (.t 88) (.c (.bool false)))])
 (.cond (.t 89) (.seq (.reg [2] [O 90 (.mv (.t 5)),O 91 (.bin .add (.t 90) (.c (.int .i64 1))),O 92 (.fa 0 (.t 7)),O 93 (.load none (.t 92)),O 94 (.build [(.int .i64 0),(.str []),(.str []),(.int .i64 0)] [(0,1,(.t 91)),(1,1,(.t 93)),(3,1,(.c (.int .i64 4)))]),.mk none none (.store 4 (.t 2) (.t 94))])
 (.ret)) (.skip)))
 (.seq (.reg [0,2,5,6,7,8] [O 8 (.mv (.c (.int .i64 0)))])
 (.block 8 (.lp true 8 [8] [0,2,5,6,7] (.seq (.seq (.reg [0,2,5,6,7,8,99] [O 95 (.mv (.t 8)),O 96 (.fa 2 (.t 7)),O 97 (.load none (.t 96)),O 98 (.lenl (.t 97)),O 99 (.bin .lss (.t 95) (.t 98))])
 (.cond (.t 99) (.skip) (.exit 8)))
 (.seq (.block 9 (.seq (.regd [0,2,5,6,7,8,9] [0,1,2,3,4,5,6,7,8,9,10] [0,0,0,4,0,16,0,112,240,511,1023] [0,0,0,0,0,0,0,0,0,4,0] [O 102 (.mv (.t 0)),O 103 (.mv (.t 5)),O 104 (.fa 0 (.t 7)),O 105 (.load none (.t 104)),O 106 (.fa 2 (.t 7)),O 107 (.load none (.t 106)),O 108 (.mv (.t 8)),O 109 (.ia 8 (.t 107) (.t 108)),O 110 (.load (some 8) (.t 109)),O 111 (.call 105 [(.t 102),(.t 103),(.t 105),(.t 110)]),O 9 (.mv (.t 111))])
 (.seq (.reg [0,2,5,6,7,8,9,113] [O 112 (.mv (.t 9)),O 113 (.bin .neq (.t 112) (.c (.int .i64 0)))])
 (.cond (.t 113) (.seq (.regd [2] [0,1,2,3,4,5,6,7,8,9,10,11,12] [0,1,0,4,0,16,0,112,240,496,0,2047,4095] [0,0,0,0,0,0,0,0,0,0,0,0,4] [O 114 (.mv (.t 5)),O 115 (.bin .add (.t 114) (.c (.int .i64 1))),O 116 (.fa 0 (.t 7)),O 117 (.load none (.t 116)),O 118 (.fa 2 (.t 7)),O 119 (.load none (.t 118)),O 120 (.mv (.t 8)),O 121 (.ia 8 (.t 119) (.t 120)),O 122 (.fa 0 (.t 121)),O 123 (.load none (.t 122)),O 124 (.mv (.t 9)),O 125 (.build [(.int .i64 0),(.str []),(.str []),(.int .i64 0)] [(0,1,(.t 115)),(1,1,(.t 117)),(2,1,(.t 123)),(3,1,(.t 124))]),.mk none none (.store 4 (.t 2) (.t 125))])
 (.ret)) (.skip)))))
 (.reg [0,2,5,6,7,8] [O 100 (.mv (.t 8)),O 101 (.bin .add (.t 100) (.c (.int .i64 1))),O 8 (.mv (.t 101))]))))))))))
 (.reg [0,2,5,6] [O 68 (.mv (.t 6)),O 69 (.bin .add (.t 68) (.c (.int .i64 1))),O 6 (.mv (.t 69))])))))))
 (.reg [0,2,5] [O 58 (.mv (.t 5)),O 59 (.bin .add (.t 58) (.c (.int .i64 1))),O 5 (.mv (.t 59))]))))))
 (.seq (.reg [2] [O 126 (.build [(.int .i64 0),(.str []),(.str []),(.int .i64 0)] []),.mk none none (.store 4 (.t 2) (.t 126))])
 (.ret)))))
def cy85:List (Nat×An):=[(2,.cells ⟨some .CFault,[some ((.int .i64),.no),some (.str,.no),some (.str,.no),some ((.int .i64),.no)]⟩),(17,.t .bool),(18,.t (.nm .CFault)),(3,.t (.int .i64)),(28,.t (.nm .Part)),(30,.t (.int .i64)),(34,.t (.nm .CFault)),(4,.t (.int .i64)),(53,.t (.nm .CFault)),(5,.t (.int .i64)),(6,.t (.int .i64)),(77,.t (.nm .Typ)),(7,.cells ⟨some .Typ,[some (.str,.no),some (.str,.no),some ((.lst (.nm .Field)),.no)]⟩),(89,.t .bool),(94,.t (.nm .CFault)),(8,.t (.int .i64)),(110,.t (.nm .Field)),(126,.t (.nm .CFault))]
def c86:CC :=
 .seq (.reg [0,2] [O 2 (.alloc [(.str []),.e0])])
 (.seq (.reg [0,2,3] [O 9 (.build [(.str []),.e0] [(0,1,(.c (.str [97])))]),O 3 (.alloc [(.str []),.e0]),.mk none none (.store 2 (.t 3) (.t 9))])
 (.seq (.seq (.reg [0,2,3,4] [O 4 (.mv (.c (.int .i64 0)))])
 (.block 0 (.lp false 0 [4] [0,2,3] (.seq (.seq (.reg [0,2,3,4,13] [O 10 (.mv (.t 4)),O 11 (.mv (.t 0)),O 12 (.lenl (.t 11)),O 13 (.bin .lss (.t 10) (.t 12))])
 (.cond (.t 13) (.skip) (.exit 0)))
 (.seq (.block 1 (.seq (.reg [0,2,3,4,5] [O 5 (.mv (.c (.int .i64 0)))])
 (.block 2 (.lp false 2 [5] [0,2,3,4] (.seq (.seq (.reg [0,2,3,4,5,23] [O 16 (.mv (.t 5)),O 17 (.mv (.t 0)),O 18 (.mv (.t 4)),O 19 (.ia 2 (.t 17) (.t 18)),O 20 (.fa 1 (.t 19)),O 21 (.load none (.t 20)),O 22 (.lenl (.t 21)),O 23 (.bin .lss (.t 16) (.t 22))])
 (.cond (.t 23) (.skip) (.exit 2)))
 (.seq (.block 3 (.seq (.reg [0,2,3,4,5,6] [O 26 (.mv (.t 0)),O 27 (.mv (.t 4)),O 28 (.ia 2 (.t 26) (.t 27)),O 29 (.fa 1 (.t 28)),O 30 (.load none (.t 29)),O 31 (.mv (.t 5)),O 32 (.ia 3 (.t 30) (.t 31)),O 33 (.load (some 3) (.t 32)),O 6 (.alloc [(.str []),(.str []),.e0]),.mk none none (.store 3 (.t 6) (.t 33))])
 (.frz 6 0 (.seq (.reg [0,2,3,4,5,6,7] [O 34 (.load (some 2) (.t 3)),O 35 (.fa 0 (.t 6)),O 36 (.load none (.t 35)),O 37 (.call 98 [(.t 34),(.t 36)]),O 7 (.mv (.t 37))])
 (.seq (.seq (.reg [0,2,3,4,5,6,7,39] [O 38 (.mv (.t 7)),O 39 (.bin .lss (.t 38) (.c (.int .i64 0)))])
 (.jn false [7] [0,2,3,4,5,6] (.cond (.t 39) (.seq (.reg [0,2,3,4,5,6,7] [O 40 (.fa 1 (.t 3)),O 41 (.load none (.t 40)),O 42 (.lenl (.t 41)),O 7 (.mv (.t 42))])
 (.frz 6 0 (.regd [0,2,3,4,5,6,7] [0,1,2,3,4,5,6,7,8,9,10,11,12] [0,1,0,4,0,0,32,112,252,508,1023,2047,4095] [0,1,0,0,0,0,0,2,0,0,3,0,4] [O 43 (.fa 1 (.t 3)),O 44 (.load none (.t 43)),O 45 (.fa 0 (.t 6)),O 46 (.load none (.t 45)),O 47 (.mv (.t 0)),O 48 (.fa 0 (.t 6)),O 49 (.load none (.t 48)),O 50 (.call 104 [(.t 47),(.t 49)]),O 51 (.build [(.str []),(.str []),.sl 8 []] [(0,1,(.t 46)),(1,1,(.t 50))]),O 52 (.bsl 3 [(.t 51)]),O 53 (.app 3 (.t 44) (.t 52)),O 54 (.fa 1 (.t 3)),.mk none none (.store 1 (.t 54) (.t 53))]))) (.skip))))
 (.seq (.reg [0,2,3,4,5,6,7,8] [O 8 (.mv (.c (.int .i64 0)))])
 (.block 4 (.lp false 4 [8] [0,2,3,4,5,6,7] (.seq (.seq (.reg [0,2,3,4,5,6,7,8,59] [O 55 (.mv (.t 8)),O 56 (.fa 2 (.t 6)),O 57 (.load none (.t 56)),O 58 (.lenl (.t 57)),O 59 (.bin .lss (.t 55) (.t 58))])
 (.cond (.t 59) (.skip) (.exit 4)))
 (.seq (.block 5 (.regd [0,2,3,4,5,6,7,8] [0,1,2,3,4,5,6,7,8,9,10,11,12,13,14,15] [0,1,0,0,8,0,56,120,0,256,0,1792,3840,8184,16383,32767] [0,1,0,0,1,0,0,1,0,0,0,0,0,2,0,4] [O 62 (.fa 1 (.t 3)),O 63 (.load none (.t 62)),O 64 (.mv (.t 7)),O 65 (.fa 1 (.t 3)),O 66 (.load none (.t 65)),O 67 (.mv (.t 7)),O 68 (.ia 3 (.t 66) (.t 67)),O 69 (.load (some 3) (.t 68)),O 70 (.fa 2 (.t 6)),O 71 (.load none (.t 70)),O 72 (.mv (.t 8)),O 73 (.ia 8 (.t 71) (.t 72)),O 74 (.load (some 8) (.t 73)),O 75 (.call 106 [(.t 69),(.t 74)]),O 76 (.ia 3 (.t 63) (.t 64)),.mk none none (.store 3 (.t 76) (.t 75))]))
 (.reg [0,2,3,4,5,6,7,8] [O 60 (.mv (.t 8)),O 61 (.bin .add (.t 60) (.c (.int .i64 1))),O 8 (.mv (.t 61))])))))))))))
 (.reg [0,2,3,4,5] [O 24 (.mv (.t 5)),O 25 (.bin .add (.t 24) (.c (.int .i64 1))),O 5 (.mv (.t 25))])))))))
 (.reg [0,2,3,4] [O 14 (.mv (.t 4)),O 15 (.bin .add (.t 14) (.c (.int .i64 1))),O 4 (.mv (.t 15))]))))))
 (.seq (.reg [2] [O 77 (.load (some 2) (.t 3)),.mk none none (.store 2 (.t 2) (.t 77))])
 (.ret))))
def cy86:List (Nat×An):=[(2,.cells ⟨some .Part,[some (.str,.no),some ((.lst (.nm .Typ)),.no)]⟩),(9,.t (.nm .Part)),(3,.cells ⟨some .Part,[some (.str,.no),some ((.lst (.nm .Typ)),.no)]⟩),(4,.t (.int .i64)),(5,.t (.int .i64)),(33,.t (.nm .Typ)),(6,.cells ⟨some .Typ,[some (.str,.no),some (.str,.no),some ((.lst (.nm .Field)),.no)]⟩),(34,.t (.nm .Part)),(7,.t (.int .i64)),(51,.t (.nm .Typ)),(52,.t (.lst (.nm .Typ))),(53,.t (.lst (.nm .Typ))),(8,.t (.int .i64)),(69,.t (.nm .Typ)),(74,.t (.nm .Field)),(77,.t (.nm .Part))]
def c87:CC :=
 .seq (.reg [1,2] [O 1 (.boxi 2 (.t 0)),O 2 (.alloc [(.int .i64 0),(.int .i64 0)])])
 (.seq (.seq (.reg [1,2,9] [O 6 (.fa 1 (.t 1)),O 7 (.load none (.t 6)),O 8 (.lenl (.t 7)),O 9 (.bin .gtr (.t 8) (.c (.int .i64 5)))])
 (.cond (.t 9) (.seq (.reg [2] [O 10 (.build [(.int .i64 0),(.int .i64 0)] [(0,1,(.c (.int .i64 6))),(1,1,(.c (.int .i64 6)))]),.mk none none (.store 2 (.t 2) (.t 10))])
 (.ret)) (.skip)))
 (.seq (.seq (.reg [1,2,14] [O 11 (.fa 0 (.t 1)),O 12 (.load none (.t 11)),O 13 (.call 107 [(.t 12)]),O 14 (.not (.t 13))])
 (.cond (.t 14) (.seq (.reg [2] [O 15 (.build [(.int .i64 0),(.int .i64 0)] [(1,1,(.c (.int .i64 1)))]),.mk none none (.store 2 (.t 2) (.t 15))])
 (.ret)) (.skip)))
 (.seq (.seq (.reg [1,2,35] [O 16 (.fa 1 (.t 1)),O 17 (.load none (.t 16)),O 18 (.lenl (.t 17)),O 19 (.bin .eql (.t 18) (.c (.int .i64 0))),O 20 (.mv (.t 19)),.mk (some 21) (some (20,false)) (.fa 1 (.t 1)),.mk (some 22) (some (20,false)) (.load none (.t 21)),.mk (some 23) (some (20,false)) (.ia 3 (.t 22) (.c (.int .i64 0))),.mk (some 24) (some (20,false)) (.fa 0 (.t 23)),.mk (some 25) (some (20,false)) (.load none (.t 24)),.mk (some 26) (some (20,false)) (.bin .neq (.t 25) (.c (.str [113,117,101,114,121]))),O 27 (.pick (.t 20) (.c (.bool true)) (.t 26)),O 28 (.mv (.t 27)),.mk (some 29) (some (28,false)) (.fa 1 (.t 1)),.mk (some 30) (some (28,false)) (.load none (.t 29)),.mk (some 31) (some (28,false)) (.ia 3 (.t 30) (.c (.int .i64 0))),.mk (some 32) (some (28,false)) (.fa 1 (.t 31)),.mk (some 33) (some (28,false)) (.load none (.t 32)),.mk (some 34) (some (28,false)) (.bin .neq (.t 33) (.c (.str []))),O 35 (.pick (.t 28) (.c (.bool true)) (.t 34))])
 (.cond (.t 35) (.seq (.reg [2] [O 36 (.build [(.int .i64 0),(.int .i64 0)] [(1,1,(.c (.int .i64 7)))]),.mk none none (.store 2 (.t 2) (.t 36))])
 (.ret)) (.skip)))
 (.seq (.seq (.reg [1,2,3] [O 3 (.mv (.c (.int .i64 0)))])
 (.block 0 (.lp true 0 [3] [1,2] (.seq (.seq (.reg [1,2,3,41] [O 37 (.mv (.t 3)),O 38 (.fa 1 (.t 1)),O 39 (.load none (.t 38)),O 40 (.lenl (.t 39)),O 41 (.bin .lss (.t 37) (.t 40))])
 (.cond (.t 41) (.skip) (.exit 0)))
 (.seq (.block 1 (.seq (.reg [1,2,3,4] [O 44 (.load (some 2) (.t 1)),O 45 (.mv (.t 3)),O 46 (.call 108 [(.t 44),(.t 45)]),O 4 (.mv (.t 46))])
 (.seq (.seq (.reg [1,2,3,4,48] [O 47 (.mv (.t 4)),O 48 (.bin .neq (.t 47) (.c (.int .i64 0)))])
 (.cond (.t 48) (.seq (.reg [2] [O 49 (.mv (.t 3)),O 50 (.bin .add (.t 49) (.c (.int .i64 1))),O 51 (.mv (.t 4)),O 52 (.build [(.int .i64 0),(.int .i64 0)] [(0,1,(.t 50)),(1,1,(.t 51))]),.mk none none (.store 2 (.t 2) (.t 52))])
 (.ret)) (.skip)))
 (.seq (.reg [1,2,3,5] [O 5 (.mv (.c (.int .i64 0)))])
 (.block 2 (.lp true 2 [5] [1,2,3] (.seq (.seq (.reg [1,2,3,5,61] [O 53 (.mv (.t 5)),O 54 (.fa 1 (.t 1)),O 55 (.load none (.t 54)),O 56 (.mv (.t 3)),O 57 (.ia 3 (.t 55) (.t 56)),O 58 (.fa 2 (.t 57)),O 59 (.load none (.t 58)),O 60 (.lenl (.t 59)),O 61 (.bin .lss (.t 53) (.t 60))])
 (.cond (.t 61) (.skip) (.exit 2)))
 (.seq (.block 3 (.seq (.reg [1,2,3,5,74] [O 64 (.fa 1 (.t 1)),O 65 (.load none (.t 64)),O 66 (.mv (.t 3)),O 67 (.ia 3 (.t 65) (.t 66)),O 68 (.fa 2 (.t 67)),O 69 (.load none (.t 68)),O 70 (.mv (.t 5)),O 71 (.ia 8 (.t 69) (.t 70)),O 72 (.fa 1 (.t 71)),O 73 (.load none (.t 72)),O 74 (.bin .eql (.t 73) (.c (.str [113,117,101,114,121])))])
 (.cond (.t 74) (.seq (.reg [2] [O 75 (.mv (.t 3)),O 76 (.bin .add (.t 75) (.c (.int .i64 1))),O 77 (.build [(.int .i64 0),(.int .i64 0)] [(0,1,(.t 76)),(1,1,(.c (.int .i64 7)))]),.mk none none (.store 2 (.t 2) (.t 77))])
 (.ret)) (.skip))))
 (.reg [1,2,3,5] [O 62 (.mv (.t 5)),O 63 (.bin .add (.t 62) (.c (.int .i64 1))),O 5 (.mv (.t 63))])))))))))
 (.reg [1,2,3] [O 42 (.mv (.t 3)),O 43 (.bin .add (.t 42) (.c (.int .i64 1))),O 3 (.mv (.t 43))]))))))
 (.seq (.seq (.reg [2,81] [O 78 (.load (some 2) (.t 1)),O 79 (.call 109 [(.t 78)]),O 80 (.lens (.t 79)),O 81 (.bin .gtr (.t 80) (.c (.int .i64 1500)))])
 (.cond (.t 81) (.seq (.reg [2] [O 82 (.build [(.int .i64 0),(.int .i64 0)] [(1,1,(.c (.int .i64 6)))]),.mk none none (.store 2 (.t 2) (.t 82))])
 (.ret)) (.skip)))
 (.seq (.reg [2] [O 83 (.build [(.int .i64 0),(.int .i64 0)] []),.mk none none (.store 2 (.t 2) (.t 83))])
 (.ret)))))))
def cy87:List (Nat×An):=[(1,.cells ⟨some .Part,[some (.str,.no),some ((.lst (.nm .Typ)),.no)]⟩),(2,.cells ⟨some .PFault,[some ((.int .i64),.no),some ((.int .i64),.no)]⟩),(10,.t (.nm .PFault)),(15,.t (.nm .PFault)),(35,.t .bool),(36,.t (.nm .PFault)),(3,.t (.int .i64)),(44,.t (.nm .Part)),(5,.t (.int .i64)),(77,.t (.nm .PFault)),(78,.t (.nm .Part)),(82,.t (.nm .PFault)),(83,.t (.nm .PFault))]
def c88:CC :=
 .seq (.reg [0,1,2] [O 6 (.mv (.c (.sl 1 [])))])
 (.seq (.reg [0,1,2,7] [O 11 (.bsl0),O 7 (.mv (.t 11))])
 (.seq (.seq (.reg [0,1,2,7,8] [O 8 (.mv (.c (.int .i64 0)))])
 (.block 0 (.lp false 0 [7,8] [0,1,2] (.seq (.seq (.reg [0,1,2,7,8,15] [O 12 (.mv (.t 8)),O 13 (.mv (.t 0)),O 14 (.lenl (.t 13)),O 15 (.bin .lss (.t 12) (.t 14))])
 (.cond (.t 15) (.skip) (.exit 0)))
 (.seq (.block 1 (.seq (.reg [0,1,2,7,8,9,10] [O 19 (.mv (.t 0)),O 20 (.mv (.t 8)),O 21 (.ia 2 (.t 19) (.t 20)),O 22 (.load (some 2) (.t 21)),O 23 (.mv (.t 1)),O 24 (.mv (.t 2)),O 25 (.call 110 [(.t 22),(.t 23),(.t 24)]),O 18 (.mv (.t 25)),O 26 (.ext (.t 18) 0),O 27 (.ext (.t 18) 1),O 9 (.alloc [(.str []),(.str []),(.bool false),(.bool false),(.bool false),(.bool false),(.bool false),.e0]),.mk none none (.store 8 (.t 9) (.t 26)),O 10 (.mv (.t 27))])
 (.frz 9 0 (.seq (.reg [0,1,2,7,8,33] [O 28 (.mv (.t 10)),O 29 (.mv (.t 28)),.mk (some 30) (some (29,true)) (.fa 4 (.t 9)),.mk (some 31) (some (29,true)) (.load none (.t 30)),.mk (some 32) (some (29,true)) (.not (.t 31)),O 33 (.pick (.t 29) (.t 32) (.c (.bool false)))])
 (.jn false [7] [0,1,2,8] (.cond (.t 33) (.reg [0,1,2,7,8] [O 34 (.mv (.t 7)),O 35 (.mv (.t 8)),O 36 (.bsl 1 [(.t 35)]),O 37 (.app 1 (.t 34) (.t 36)),O 7 (.mv (.t 37))]) (.skip)))))))
 (.reg [0,1,2,7,8] [O 16 (.mv (.t 8)),O 17 (.bin .add (.t 16) (.c (.int .i64 1))),O 8 (.mv (.t 17))]))))))
 (.seq (.reg [6] [O 38 (.mv (.t 7)),O 6 (.mv (.t 38))])
 (.ret))))
def cy88:List (Nat×An):=[(6,.t (.lst (.int .i64))),(11,.t (.lst (.int .i64))),(7,.t (.lst (.int .i64))),(8,.t (.int .i64)),(22,.t (.nm .Part)),(9,.cells ⟨some .Field,[some (.str,.no),some (.str,.no),some (.bool,.no),some (.bool,.no),some (.bool,.no),some (.bool,.no),some (.bool,.no),some ((.lst .str),.no)]⟩),(33,.t .bool),(36,.t (.lst (.int .i64))),(37,.t (.lst (.int .i64)))]
def c89:CC :=
 .seq (.reg [1,2,3,4,8] [O 4 (.boxi 2 (.t 0)),O 8 (.alloc [.e0,(.int .i64 0)])])
 (.seq (.seq (.reg [1,2,3,4,8,9] [O 9 (.mv (.c (.int .i64 0)))])
 (.block 0 (.lp true 0 [9] [1,2,3,4,8] (.seq (.seq (.reg [1,2,3,4,8,9,19] [O 16 (.mv (.t 9)),O 17 (.mv (.t 2)),O 18 (.lenl (.t 17)),O 19 (.bin .lss (.t 16) (.t 18))])
 (.cond (.t 19) (.skip) (.exit 0)))
 (.seq (.block 1 (.seq (.reg [1,2,3,4,8,9,10] [O 22 (.mv (.t 2)),O 23 (.mv (.t 9)),O 24 (.ia 5 (.t 22) (.t 23)),O 25 (.load (some 5) (.t 24)),O 10 (.alloc [(.str []),(.str []),(.bool false),(.int .i64 0),.e0]),.mk none none (.store 5 (.t 10) (.t 25))])
 (.frz 10 0 (.seq (.regd [1,2,3,4,8,9,10,11] [0,1,2,3,4,5,6,7] [0,0,3,0,15,31,63,127] [0,0,3,0,4,0,3,0] [O 26 (.bsl0),O 27 (.mv (.t 3)),O 28 (.app 1 (.t 26) (.t 27)),O 29 (.load (some 5) (.t 10)),O 30 (.call 101 [(.t 29)]),O 31 (.bsl 1 [(.t 30)]),O 32 (.app 1 (.t 28) (.t 31)),O 11 (.mv (.t 32))])
 (.seq (.frz 10 0 (.reg [1,2,3,4,8,9,10,11,12,13] [O 34 (.load (some 2) (.t 4)),O 35 (.mv (.t 1)),O 36 (.fa 1 (.t 10)),O 37 (.load none (.t 36)),O 38 (.call 110 [(.t 34),(.t 35),(.t 37)]),O 33 (.mv (.t 38)),O 39 (.ext (.t 33) 0),O 40 (.ext (.t 33) 1),O 12 (.alloc [(.str []),(.str []),(.bool false),(.bool false),(.bool false),(.bool false),(.bool false),.e0]),.mk none none (.store 8 (.t 12) (.t 39)),O 13 (.mv (.t 40))]))
 (.frz 12 0 (.seq (.reg [1,2,3,4,8,9,10,11,12,13,14] [O 41 (.fa 1 (.t 12)),O 42 (.load none (.t 41)),O 43 (.call 100 [(.t 42)]),O 14 (.mv (.t 43))])
 (.seq (.block 2 (.seq (.reg [1,2,3,4,8,9,10,11,12,14,44] [O 45 (.mv (.t 13)),O 46 (.not (.t 45)),O 47 (.mv (.t 46)),.mk (some 48) (some (47,false)) (.fa 5 (.t 12)),.mk (some 49) (some (47,false)) (.load none (.t 48)),O 50 (.pick (.t 47) (.c (.bool true)) (.t 49)),O 44 (.mv (.t 50))])
 (.cond (.t 44) (.seq (.reg [8] [O 51 (.mv (.t 11)),O 52 (.build [.e0,(.int .i64 0)] [(0,1,(.t 51)),(1,1,(.c (.int .i64 1)))]),.mk none none (.store 2 (.t 8) (.t 52))])
 (.ret)) (.seq (.reg [1,2,3,4,8,9,10,11,12,14,53] [O 54 (.mv (.t 14)),O 55 (.mv (.t 54)),.mk (some 56) (some (55,true)) (.fa 4 (.t 10)),.mk (some 57) (some (55,true)) (.load none (.t 56)),.mk (some 58) (some (55,true)) (.lenl (.t 57)),.mk (some 59) (some (55,true)) (.bin .gtr (.t 58) (.c (.int .i64 0))),O 60 (.pick (.t 55) (.t 59) (.c (.bool false))),O 53 (.mv (.t 60))])
 (.cond (.t 53) (.seq (.reg [8] [O 61 (.mv (.t 11)),O 62 (.build [.e0,(.int .i64 0)] [(0,1,(.t 61)),(1,1,(.c (.int .i64 2)))]),.mk none none (.store 2 (.t 8) (.t 62))])
 (.ret)) (.seq (.reg [1,2,3,4,8,9,10,11,12,14,63] [O 64 (.mv (.t 14)),O 65 (.not (.t 64)),O 66 (.mv (.t 65)),.mk (some 67) (some (66,true)) (.fa 4 (.t 10)),.mk (some 68) (some (66,true)) (.load none (.t 67)),.mk (some 69) (some (66,true)) (.lenl (.t 68)),.mk (some 70) (some (66,true)) (.bin .eql (.t 69) (.c (.int .i64 0))),O 71 (.pick (.t 66) (.t 70) (.c (.bool false))),O 63 (.mv (.t 71))])
 (.cond (.t 63) (.seq (.reg [8] [O 72 (.mv (.t 11)),O 73 (.build [.e0,(.int .i64 0)] [(0,1,(.t 72)),(1,1,(.c (.int .i64 3)))]),.mk none none (.store 2 (.t 8) (.t 73))])
 (.ret)) (.seq (.reg [1,2,3,4,8,9,10,11,12,74] [O 75 (.fa 2 (.t 10)),O 76 (.load none (.t 75)),O 77 (.mv (.t 76)),.mk (some 78) (some (77,true)) (.mv (.t 14)),.mk (some 79) (some (77,true)) (.mv (.t 78)),.mk (some 80) (some (79,false)) (.fa 2 (.t 12)),.mk (some 81) (some (79,false)) (.load none (.t 80)),.mk (some 82) (some (77,true)) (.pick (.t 79) (.c (.bool true)) (.t 81)),.mk (some 83) (some (77,true)) (.mv (.t 82)),.mk (some 84) (some (83,false)) (.mv (.t 1)),.mk (some 85) (some (83,false)) (.bin .neq (.t 84) (.c (.str [113,117,101,114,121]))),.mk (some 86) (some (77,true)) (.pick (.t 83) (.c (.bool true)) (.t 85)),O 87 (.pick (.t 77) (.t 86) (.c (.bool false))),O 74 (.mv (.t 87))])
 (.cond (.t 74) (.seq (.reg [8] [O 88 (.mv (.t 11)),O 89 (.build [.e0,(.int .i64 0)] [(0,1,(.t 88)),(1,1,(.c (.int .i64 4)))]),.mk none none (.store 2 (.t 8) (.t 89))])
 (.ret)) (.skip))))))))))
 (.seq (.frz 10 0 (.frz 11 0 (.frz 12 0 (.reg [1,2,3,4,8,9,15] [O 90 (.load (some 2) (.t 4)),O 91 (.fa 1 (.t 12)),O 92 (.load none (.t 91)),O 93 (.fa 4 (.t 10)),O 94 (.load none (.t 93)),O 95 (.mv (.t 11)),O 96 (.call 89 [(.t 90),(.t 92),(.t 94),(.t 95)]),O 15 (.alloc [.e0,(.int .i64 0)]),.mk none none (.store 2 (.t 15) (.t 96))]))))
 (.frz 15 0 (.seq (.reg [1,2,3,4,8,9,15,99] [O 97 (.fa 1 (.t 15)),O 98 (.load none (.t 97)),O 99 (.bin .neq (.t 98) (.c (.int .i64 0)))])
 (.cond (.t 99) (.seq (.reg [8] [O 100 (.load (some 2) (.t 15)),.mk none none (.store 2 (.t 8) (.t 100))])
 (.ret)) (.skip)))))))))))))
 (.reg [1,2,3,4,8,9] [O 20 (.mv (.t 9)),O 21 (.bin .add (.t 20) (.c (.int .i64 1))),O 9 (.mv (.t 21))]))))))
 (.seq (.reg [8] [O 101 (.build [.e0,(.int .i64 0)] []),.mk none none (.store 2 (.t 8) (.t 101))])
 (.ret)))
def cy89:List (Nat×An):=[(4,.cells ⟨some .Part,[some (.str,.no),some ((.lst (.nm .Typ)),.no)]⟩),(8,.cells ⟨some .AFault,[some ((.lst .str),.no),some ((.int .i64),.no)]⟩),(9,.t (.int .i64)),(16,.t (.int .i64)),(17,.t (.lst (.nm .Sel))),(18,.t (.int .i64)),(19,.t .bool),(22,.t (.lst (.nm .Sel))),(23,.t (.int .i64)),(25,.t (.nm .Sel)),(10,.cells ⟨some .Sel,[some (.str,.no),some (.str,.no),some (.bool,.no),some ((.int .i64),.no),some ((.lst (.nm .Sel)),.no)]⟩),(26,.t (.lst .str)),(27,.t (.lst .str)),(28,.t (.lst .str)),(29,.t (.nm .Sel)),(30,.t .str),(31,.t (.lst .str)),(32,.t (.lst .str)),(11,.t (.lst .str)),(34,.t (.nm .Part)),(35,.t .str),(37,.t .str),(39,.t (.nm .Field)),(40,.t .bool),(12,.cells ⟨some .Field,[some (.str,.no),some (.str,.no),some (.bool,.no),some (.bool,.no),some (.bool,.no),some (.bool,.no),some (.bool,.no),some ((.lst .str),.no)]⟩),(13,.t .bool),(42,.t .str),(43,.t .bool),(14,.t .bool),(45,.t .bool),(46,.t .bool),(47,.t .bool),(49,.t .bool),(50,.t .bool),(44,.t .bool),(51,.t (.lst .str)),(52,.t (.nm .AFault)),(54,.t .bool),(55,.t .bool),(57,.t (.lst (.nm .Sel))),(58,.t (.int .i64)),(59,.t .bool),(60,.t .bool),(53,.t .bool),(61,.t (.lst .str)),(62,.t (.nm .AFault)),(64,.t .bool),(65,.t .bool),(66,.t .bool),(68,.t (.lst (.nm .Sel))),(69,.t (.int .i64)),(70,.t .bool),(71,.t .bool),(63,.t .bool),(72,.t (.lst .str)),(73,.t (.nm .AFault)),(76,.t .bool),(77,.t .bool),(78,.t .bool),(79,.t .bool),(81,.t .bool),(82,.t .bool),(83,.t .bool),(84,.t .str),(85,.t .bool),(86,.t .bool),(87,.t .bool),(74,.t .bool),(88,.t (.lst .str)),(89,.t (.nm .AFault)),(90,.t (.nm .Part)),(92,.t .str),(94,.t (.lst (.nm .Sel))),(95,.t (.lst .str)),(96,.t (.nm .AFault)),(15,.cells ⟨some .AFault,[some ((.lst .str),.no),some ((.int .i64),.no)]⟩),(98,.t (.int .i64)),(99,.t .bool),(100,.t (.nm .AFault)),(20,.t (.int .i64)),(21,.t (.int .i64)),(101,.t (.nm .AFault))]
def c90:CC :=
 .seq (.reg [0,1,2] [O 6 (.mv (.c (.int .i64 0)))])
 (.seq (.seq (.reg [0,1,2,7] [O 7 (.mv (.c (.int .i64 0)))])
 (.block 0 (.lp true 0 [7] [0,1,2] (.seq (.seq (.reg [0,1,2,7,13] [O 10 (.mv (.t 7)),O 11 (.mv (.t 0)),O 12 (.lenl (.t 11)),O 13 (.bin .lss (.t 10) (.t 12))])
 (.cond (.t 13) (.skip) (.exit 0)))
 (.seq (.block 1 (.seq (.reg [0,1,2,7,8,9] [O 17 (.mv (.t 0)),O 18 (.mv (.t 7)),O 19 (.ia 2 (.t 17) (.t 18)),O 20 (.load (some 2) (.t 19)),O 21 (.mv (.t 1)),O 22 (.mv (.t 2)),O 23 (.call 110 [(.t 20),(.t 21),(.t 22)]),O 16 (.mv (.t 23)),O 24 (.ext (.t 16) 0),O 25 (.ext (.t 16) 1),O 8 (.alloc [(.str []),(.str []),(.bool false),(.bool false),(.bool false),(.bool false),(.bool false),.e0]),.mk none none (.store 8 (.t 8) (.t 24)),O 9 (.mv (.t 25))])
 (.frz 8 0 (.seq (.reg [0,1,2,7,43] [O 26 (.mv (.t 9)),O 27 (.mv (.t 26)),.mk (some 28) (some (27,true)) (.fa 4 (.t 8)),.mk (some 29) (some (27,true)) (.load none (.t 28)),.mk (some 30) (some (27,true)) (.not (.t 29)),O 31 (.pick (.t 27) (.t 30) (.c (.bool false))),O 32 (.mv (.t 31)),.mk (some 33) (some (32,true)) (.mv (.t 1)),.mk (some 34) (some (32,true)) (.bin .eql (.t 33) (.c (.str [113,117,101,114,121]))),.mk (some 35) (some (32,true)) (.mv (.t 34)),.mk (some 36) (some (35,false)) (.mv (.t 0)),.mk (some 37) (some (35,false)) (.mv (.t 7)),.mk (some 38) (some (35,false)) (.ia 2 (.t 36) (.t 37)),.mk (some 39) (some (35,false)) (.load (some 2) (.t 38)),.mk (some 40) (some (35,false)) (.mv (.t 1)),.mk (some 41) (some (35,false)) (.call 111 [(.t 39),(.t 40)]),.mk (some 42) (some (32,true)) (.pick (.t 35) (.c (.bool true)) (.t 41)),O 43 (.pick (.t 32) (.t 42) (.c (.bool false)))])
 (.cond (.t 43) (.seq (.reg [6] [O 44 (.mv (.t 7)),O 6 (.mv (.t 44))])
 (.ret)) (.skip))))))
 (.reg [0,1,2,7] [O 14 (.mv (.t 7)),O 15 (.bin .add (.t 14) (.c (.int .i64 1))),O 7 (.mv (.t 15))]))))))
 (.seq (.reg [6] [O 6 (.mv (.c (.int .i64 (-1))))])
 (.ret)))
def cy90:List (Nat×An):=[(6,.t (.int .i64)),(7,.t (.int .i64)),(20,.t (.nm .Part)),(8,.cells ⟨some .Field,[some (.str,.no),some (.str,.no),some (.bool,.no),some (.bool,.no),some (.bool,.no),some (.bool,.no),some (.bool,.no),some ((.lst .str),.no)]⟩),(39,.t (.nm .Part)),(43,.t .bool)]
def c91:CC :=
 .seq (.reg [0,1,2,3,4] [O 10 (.mv (.c (.int .i64 0)))])
 (.seq (.regd [0] [0,1,2,3,4,5,6,7,8,9,10,11,12,13,14,15,16,17,18] [0,0,2,6,14,0,0,0,192,0,0,0,3520,8160,16352,32766,65535,131071,262143] [0,0,0,0,1,0,0,0,3,0,0,0,3,0,0,3,0,0,4] [O 11 (.mv (.t 0)),O 12 (.mv (.t 0)),O 13 (.nilc (.t 12)),O 14 (.fa 3 (.t 13)),O 15 (.load none (.t 14)),O 16 (.mv (.t 1)),O 17 (.bsl0),O 18 (.mv (.t 2)),O 19 (.apf 1 (.t 17) (.t 18)),O 20 (.mv (.t 3)),O 21 (.bsl0),O 22 (.mv (.t 4)),O 23 (.apf 1 (.t 21) (.t 22)),O 24 (.build [(.int .i64 0),.sl 1 [],(.str []),.sl 5 [],.sl 1 [],.sl 1 []] [(0,1,(.t 16)),(1,1,(.t 19)),(2,1,(.t 20)),(4,1,(.t 23))]),O 25 (.bsl 6 [(.t 24)]),O 26 (.app 6 (.t 15) (.t 25)),O 27 (.nilc (.t 11)),O 28 (.fa 3 (.t 27)),.mk none none (.store 1 (.t 28) (.t 26))])
 (.seq (.reg [10] [O 29 (.mv (.t 0)),O 30 (.nilc (.t 29)),O 31 (.fa 3 (.t 30)),O 32 (.load none (.t 31)),O 33 (.lenl (.t 32)),O 34 (.bin .sub (.t 33) (.c (.int .i64 1))),O 10 (.mv (.t 34))])
 (.ret)))
def cy91:List (Nat×An):=[(10,.t (.int .i64)),(15,.t (.lst (.nm .Stp))),(16,.t (.int .i64)),(17,.t (.lst .str)),(18,.t (.lst .str)),(19,.t (.lst .str)),(20,.t .str),(21,.t (.lst (.int .i64))),(22,.t (.lst (.int .i64))),(23,.t (.lst (.int .i64))),(24,.t (.nm .Stp)),(25,.t (.lst (.nm .Stp))),(26,.t (.lst (.nm .Stp))),(32,.t (.lst (.nm .Stp))),(33,.t (.int .i64)),(34,.t (.int .i64))]
def c92:CC :=
 .seq (.reg [0,1,2,3,4] [O 10 (.mv (.c (.sl 5 [])))])
 (.seq (.reg [0,1,2,3,4,11] [O 20 (.mv (.t 0)),O 21 (.nilc (.t 20)),O 22 (.fa 3 (.t 21)),O 23 (.load none (.t 22)),O 24 (.mv (.t 1)),O 25 (.ia 6 (.t 23) (.t 24)),O 26 (.fa 0 (.t 25)),O 27 (.load none (.t 26)),O 11 (.mv (.t 27))])
 (.seq (.reg [0,1,2,3,4,11,12] [O 28 (.bsl0),O 12 (.mv (.t 28))])
 (.seq (.reg [0,1,2,3,4,11,12,13] [O 29 (.mv (.t 0)),O 30 (.nilc (.t 29)),O 31 (.fa 0 (.t 30)),O 32 (.load none (.t 31)),O 33 (.lenl (.t 32)),O 34 (.mks 1 [.e0] (.t 33)),O 13 (.mv (.t 34))])
 (.seq (.seq (.reg [0,1,2,3,4,11,12,13,14] [O 14 (.mv (.c (.int .i64 0)))])
 (.block 0 (.lp true 0 [12,14] [0,1,2,3,4,11,13] (.seq (.seq (.reg [0,1,2,3,4,11,12,13,14,38] [O 35 (.mv (.t 14)),O 36 (.mv (.t 3)),O 37 (.lenl (.t 36)),O 38 (.bin .lss (.t 35) (.t 37))])
 (.cond (.t 38) (.skip) (.exit 0)))
 (.seq (.block 1 (.seq (.reg [0,1,2,3,4,11,12,13,14,15] [O 41 (.mv (.t 3)),O 42 (.mv (.t 14)),O 43 (.ia 5 (.t 41) (.t 42)),O 44 (.load (some 5) (.t 43)),O 15 (.alloc [(.str []),(.str []),(.bool false),(.int .i64 0),.e0]),.mk none none (.store 5 (.t 15) (.t 44))])
 (.seq (.regd [0,1,2,3,4,11,12,13,14,15,16] [0,1,2,3,4,5,6,7,8,9] [0,1,3,7,0,0,0,64,255,511] [0,0,0,1,0,0,0,1,4,0] [O 45 (.mv (.t 0)),O 46 (.nilc (.t 45)),O 47 (.fa 0 (.t 46)),O 48 (.load none (.t 47)),O 49 (.mv (.t 11)),O 50 (.mv (.t 2)),O 51 (.fa 1 (.t 15)),O 52 (.load none (.t 51)),O 53 (.call 112 [(.t 48),(.t 49),(.t 50),(.t 52)]),O 16 (.mv (.t 53))])
 (.seq (.seq (.reg [0,1,2,3,4,11,12,13,14,15,16,55] [O 54 (.mv (.t 16)),O 55 (.bin .lss (.t 54) (.c (.int .i64 0)))])
 (.cond (.t 55) (.seq (.reg [12] [O 56 (.mv (.t 0)),O 57 (.nilc (.t 56)),O 58 (.fa 4 (.t 57)),.mk none none (.store 1 (.t 58) (.c (.bool false)))])
 (.seq (.reg [10] [O 59 (.mv (.t 12)),O 10 (.mv (.t 59))])
 (.ret))) (.skip)))
 (.seq (.seq (.regd [0,1,2,3,4,11,12,13,14,15,16,79] [0,1,2,3,4,5,6,7,8,9,10,11,12,13,14,15,16,17,18,19] [0,0,3,7,15,31,63,127,255,511,1023,127,4095,8191,127,127,32895,131071,262143,524287] [0,0,0,0,0,0,0,0,0,0,1,0,0,1,0,0,1,4,0,0] [O 60 (.mv (.t 16)),O 61 (.mv (.t 11)),O 62 (.bin .eql (.t 60) (.t 61)),O 63 (.mv (.t 62)),.mk (some 64) (some (63,true)) (.mv (.t 2)),.mk (some 65) (some (63,true)) (.bin .eql (.t 64) (.c (.str [113,117,101,114,121]))),.mk (some 66) (some (63,true)) (.mv (.t 65)),.mk (some 67) (some (66,false)) (.mv (.t 0)),.mk (some 68) (some (66,false)) (.nilc (.t 67)),.mk (some 69) (some (66,false)) (.fa 0 (.t 68)),.mk (some 70) (some (66,false)) (.load none (.t 69)),.mk (some 71) (some (66,false)) (.mv (.t 11)),.mk (some 72) (some (66,false)) (.ia 2 (.t 70) (.t 71)),.mk (some 73) (some (66,false)) (.load (some 2) (.t 72)),.mk (some 74) (some (66,false)) (.mv (.t 2)),.mk (some 75) (some (66,false)) (.fa 1 (.t 15)),.mk (some 76) (some (66,false)) (.load none (.t 75)),.mk (some 77) (some (66,false)) (.call 113 [(.t 73),(.t 74),(.t 76)]),.mk (some 78) (some (63,true)) (.pick (.t 66) (.c (.bool true)) (.t 77)),O 79 (.pick (.t 63) (.t 78) (.c (.bool false)))])
 (.cond (.t 79) (.seq (.regd [0,1,2,3,4,11,12,13,14,15,17] [0,1,2,3,4,5,6,7,8,9,10,11,12,13] [0,1,3,7,0,0,32,127,255,511,511,0,3071,8191] [0,0,0,1,0,0,1,4,0,0,0,4,4,0] [O 81 (.mv (.t 0)),O 82 (.nilc (.t 81)),O 83 (.fa 1 (.t 82)),O 84 (.load (some 2) (.t 83)),O 85 (.mv (.t 2)),O 86 (.fa 1 (.t 15)),O 87 (.load none (.t 86)),O 88 (.call 110 [(.t 84),(.t 85),(.t 87)]),O 80 (.mv (.t 88)),O 89 (.ext (.t 80) 0),O 90 (.ext (.t 80) 1),O 17 (.alloc [(.str []),(.str []),(.bool false),(.bool false),(.bool false),(.bool false),(.bool false),.e0]),.mk none none (.store 8 (.t 17) (.t 89)),O 18 (.mv (.t 90))])
 (.frz 17 0 (.seq (.frz 17 0 (.regd [0,1,2,3,4,11,12,13,14,15] [0,1,2,3,4,5,6,7,8,9,10,11,12,13,14,15] [0,0,0,4,0,16,0,0,192,0,960,1984,4032,8191,16383,32767] [0,0,0,0,0,1,0,0,3,1,0,0,3,4,0,4] [O 91 (.mv (.t 0)),O 92 (.mv (.t 1)),O 93 (.fa 1 (.t 17)),O 94 (.load none (.t 93)),O 95 (.fa 4 (.t 15)),O 96 (.load none (.t 95)),O 97 (.bsl0),O 98 (.mv (.t 4)),O 99 (.app 1 (.t 97) (.t 98)),O 100 (.load (some 5) (.t 15)),O 101 (.call 101 [(.t 100)]),O 102 (.bsl 1 [(.t 101)]),O 103 (.apf 1 (.t 99) (.t 102)),O 104 (.call 92 [(.t 91),(.t 92),(.t 94),(.t 96),(.t 103)]),O 105 (.fa 4 (.t 15)),.mk none none (.store 1 (.t 105) (.t 104))]))
 (.seq (.frz 15 0 (.reg [0,1,2,3,4,11,12,13,14] [O 106 (.mv (.t 12)),O 107 (.load (some 5) (.t 15)),O 108 (.bsl 5 [(.t 107)]),O 109 (.app 5 (.t 106) (.t 108)),O 12 (.mv (.t 109))]))
 (.exit 1))))) (.skip)))
 (.regd [0,1,2,3,4,11,12,13,14] [0,1,2,3,4,5,6,7,8,9,10,11] [0,0,3,7,0,15,0,127,255,511,255,1279] [0,0,0,2,2,0,0,3,0,5,0,6] [O 110 (.mv (.t 13)),O 111 (.mv (.t 16)),O 112 (.ia 1 (.t 110) (.t 111)),O 113 (.load none (.t 112)),O 114 (.load (some 5) (.t 15)),O 115 (.lenl (.t 113)),O 116 (.bsl 5 [(.c (.agg [(.str []),(.str []),(.bool false),(.int .i64 0),.sl 5 []]))]),O 117 (.app 5 (.t 113) (.t 116)),O 118 (.ia 5 (.t 117) (.t 115)),.mk none none (.store 5 (.t 118) (.t 114)),O 119 (.ia 1 (.t 110) (.t 111)),.mk none none (.store 1 (.t 119) (.t 117))]))))))
 (.reg [0,1,2,3,4,11,12,13,14] [O 39 (.mv (.t 14)),O 40 (.bin .add (.t 39) (.c (.int .i64 1))),O 14 (.mv (.t 40))]))))))
 (.seq (.seq (.frz 12 0 (.frz 13 0 (.reg [0,1,2,4,12,13,19] [O 19 (.mv (.c (.int .i64 0)))])))
 (.block 2 (.lp false 2 [12,19] [0,1,2,4,13] (.seq (.seq (.reg [0,1,2,4,12,13,19,123] [O 120 (.mv (.t 19)),O 121 (.mv (.t 13)),O 122 (.lenl (.t 121)),O 123 (.bin .lss (.t 120) (.t 122))])
 (.cond (.t 123) (.skip) (.exit 2)))
 (.seq (.block 3 (.seq (.reg [0,1,2,4,12,13,19,131] [O 126 (.mv (.t 13)),O 127 (.mv (.t 19)),O 128 (.ia 1 (.t 126) (.t 127)),O 129 (.load none (.t 128)),O 130 (.lenl (.t 129)),O 131 (.bin .gtr (.t 130) (.c (.int .i64 0)))])
 (.jn false [12] [0,1,2,4,13,19] (.cond (.t 131) (.reg [0,1,2,4,12,13,19] [O 132 (.mv (.t 0)),O 133 (.mv (.t 1)),O 134 (.mv (.t 19)),O 135 (.mv (.t 2)),O 136 (.mv (.t 13)),O 137 (.mv (.t 19)),O 138 (.ia 1 (.t 136) (.t 137)),O 139 (.load none (.t 138)),O 140 (.mv (.t 4)),O 141 (.mv (.t 12)),O 142 (.call 114 [(.t 132),(.t 133),(.t 134),(.t 135),(.t 139),(.t 140),(.t 141)]),O 12 (.mv (.t 142))]) (.skip)))))
 (.frz 12 0 (.frz 13 0 (.reg [0,1,2,4,12,13,19] [O 124 (.mv (.t 19)),O 125 (.bin .add (.t 124) (.c (.int .i64 1))),O 19 (.mv (.t 125))]))))))))
 (.seq (.reg [10] [O 143 (.mv (.t 12)),O 10 (.mv (.t 143))])
 (.ret)))))))
def cy92:List (Nat×An):=[(10,.t (.lst (.nm .Sel))),(23,.t (.lst (.nm .Stp))),(24,.t (.int .i64)),(27,.t (.int .i64)),(11,.t (.int .i64)),(28,.t (.lst (.nm .Sel))),(12,.t (.lst (.nm .Sel))),(32,.t (.lst (.nm .Part))),(33,.t (.int .i64)),(34,.o (.lst (.nm .Sel)) (.at [(0,.no)])),(13,.t (.lst (.lst (.nm .Sel)))),(14,.t (.int .i64)),(35,.t (.int .i64)),(36,.t (.lst (.nm .Sel))),(37,.t (.int .i64)),(38,.t .bool),(41,.t (.lst (.nm .Sel))),(42,.t (.int .i64)),(44,.t (.nm .Sel)),(15,.cells ⟨some .Sel,[some (.str,.no),some (.str,.no),some (.bool,.no),some ((.int .i64),.no),some ((.lst (.nm .Sel)),.no)]⟩),(48,.t (.lst (.nm .Part))),(49,.t (.int .i64)),(50,.t .str),(52,.t .str),(53,.t (.int .i64)),(16,.t (.int .i64)),(54,.t (.int .i64)),(55,.t .bool),(59,.t (.lst (.nm .Sel))),(60,.t (.int .i64)),(61,.t (.int .i64)),(62,.t .bool),(63,.t .bool),(64,.t .str),(65,.t .bool),(66,.t .bool),(70,.t (.lst (.nm .Part))),(71,.t (.int .i64)),(73,.t (.nm .Part)),(74,.t .str),(76,.t .str),(77,.t .bool),(78,.t .bool),(79,.t .bool),(84,.t (.nm .Part)),(85,.t .str),(87,.t .str),(89,.t (.nm .Field)),(90,.t .bool),(17,.cells ⟨some .Field,[some (.str,.no),some (.str,.no),some (.bool,.no),some (.bool,.no),some (.bool,.no),some (.bool,.no),some (.bool,.no),some ((.lst .str),.no)]⟩),(18,.t .bool),(92,.t (.int .i64)),(94,.t .str),(96,.t (.lst (.nm .Sel))),(97,.t (.lst .str)),(98,.t (.lst .str)),(99,.t (.lst .str)),(100,.t (.nm .Sel)),(101,.t .str),(102,.t (.lst .str)),(103,.t (.lst .str)),(104,.t (.lst (.nm .Sel))),(106,.t (.lst (.nm .Sel))),(107,.t (.nm .Sel)),(108,.t (.lst (.nm .Sel))),(109,.t (.lst (.nm .Sel))),(110,.t (.lst (.lst (.nm .Sel)))),(111,.t (.int .i64)),(113,.t (.lst (.nm .Sel))),(114,.t (.nm .Sel)),(115,.t (.int .i64)),(116,.t (.lst (.nm .Sel))),(117,.t (.lst (.nm .Sel))),(39,.t (.int .i64)),(40,.t (.int .i64)),(19,.t (.int .i64)),(120,.t (.int .i64)),(121,.t (.lst (.lst (.nm .Sel)))),(122,.t (.int .i64)),(123,.t .bool),(126,.t (.lst (.lst (.nm .Sel)))),(127,.t (.int .i64)),(129,.t (.lst (.nm .Sel))),(130,.t (.int .i64)),(131,.t .bool),(133,.t (.int .i64)),(134,.t (.int .i64)),(135,.t .str),(136,.t (.lst (.lst (.nm .Sel)))),(137,.t (.int .i64)),(139,.t (.lst (.nm .Sel))),(140,.t (.lst .str)),(141,.t (.lst (.nm .Sel))),(142,.t (.lst (.nm .Sel))),(124,.t (.int .i64)),(125,.t (.int .i64)),(143,.t (.lst (.nm .Sel)))]
def c93:CC :=
 .seq (.reg [0] [O 2 (.mv (.c (.sl 5 [])))])
 (.seq (.reg [0,3] [O 6 (.bsl0),O 3 (.mv (.t 6))])
 (.seq (.seq (.reg [0,3,4] [O 4 (.mv (.c (.int .i64 0)))])
 (.block 0 (.lp false 0 [3,4] [0] (.seq (.seq (.reg [0,3,4,10] [O 7 (.mv (.t 4)),O 8 (.mv (.t 0)),O 9 (.lenl (.t 8)),O 10 (.bin .lss (.t 7) (.t 9))])
 (.cond (.t 10) (.skip) (.exit 0)))
 (.seq (.block 1 (.seq (.reg [0,3,4,5] [O 13 (.mv (.t 0)),O 14 (.mv (.t 4)),O 15 (.ia 5 (.t 13) (.t 14)),O 16 (.load (some 5) (.t 15)),O 5 (.alloc [(.str []),(.str []),(.bool false),(.int .i64 0),.e0]),.mk none none (.store 5 (.t 5) (.t 16))])
 (.seq (.reg [0,3,4,5] [O 17 (.fa 4 (.t 5)),O 18 (.load none (.t 17)),O 19 (.call 93 [(.t 18)]),O 20 (.fa 4 (.t 5)),.mk none none (.store 1 (.t 20) (.t 19))])
 (.frz 5 0 (.reg [0,3,4] [O 21 (.mv (.t 3)),O 22 (.load (some 5) (.t 5)),O 23 (.bsl 5 [(.t 22)]),O 24 (.app 5 (.t 21) (.t 23)),O 3 (.mv (.t 24))])))))
 (.reg [0,3,4] [O 11 (.mv (.t 4)),O 12 (.bin .add (.t 11) (.c (.int .i64 1))),O 4 (.mv (.t 12))]))))))
 (.seq (.reg [2] [O 25 (.mv (.t 3)),O 2 (.mv (.t 25))])
 (.ret))))
def cy93:List (Nat×An):=[(2,.t (.lst (.nm .Sel))),(6,.t (.lst (.nm .Sel))),(3,.t (.lst (.nm .Sel))),(4,.t (.int .i64)),(7,.t (.int .i64)),(8,.t (.lst (.nm .Sel))),(9,.t (.int .i64)),(10,.t .bool),(13,.t (.lst (.nm .Sel))),(14,.t (.int .i64)),(16,.t (.nm .Sel)),(5,.cells ⟨some .Sel,[some (.str,.no),some (.str,.no),some (.bool,.no),some ((.int .i64),.no),some ((.lst (.nm .Sel)),.no)]⟩),(18,.t (.lst (.nm .Sel))),(19,.t (.lst (.nm .Sel))),(21,.t (.lst (.nm .Sel))),(22,.t (.nm .Sel)),(23,.t (.lst (.nm .Sel))),(24,.t (.lst (.nm .Sel))),(11,.t (.int .i64)),(12,.t (.int .i64)),(25,.t (.lst (.nm .Sel)))]
def c95:CC :=
 .seq (.reg [0] [O 2 (.mv (.c (.str [])))])
 (.seq (.seq (.reg [0,4] [O 3 (.mv (.t 0)),O 4 (.bin .lss (.t 3) (.c (.int .i64 (-9223372036854775807))))])
 (.cond (.t 4) (.seq (.reg [2] [O 2 (.mv (.c (.str [45,57,50,50,51,51,55,50,48,51,54,56,53,52,55,55,53,56,48,56])))])
 (.ret)) (.skip)))
 (.seq (.seq (.reg [0,6] [O 5 (.mv (.t 0)),O 6 (.bin .lss (.t 5) (.c (.int .i64 0)))])
 (.cond (.t 6) (.seq (.reg [2] [O 7 (.mv (.t 0)),O 8 (.neg (.t 7)),O 9 (.call 95 [(.t 8)]),O 10 (.bin .add (.c (.str [45])) (.t 9)),O 2 (.mv (.t 10))])
 (.ret)) (.skip)))
 (.seq (.seq (.reg [0,12] [O 11 (.mv (.t 0)),O 12 (.bin .lss (.t 11) (.c (.int .i64 10)))])
 (.cond (.t 12) (.seq (.reg [2] [O 13 (.mv (.t 0)),O 14 (.bin .add (.c (.int .i64 48)) (.t 13)),O 15 (.conv .u8 (.t 14)),O 16 (.bsl 1 [(.t 15)]),O 17 (.b2s (.t 16)),O 2 (.mv (.t 17))])
 (.ret)) (.skip)))
 (.seq (.regd [2] [0,1,2,3,4,5,6,7,8,9,10] [0,1,3,0,8,24,56,120,248,511,1023] [0,0,2,0,0,0,0,0,1,0,0] [O 18 (.mv (.t 0)),O 19 (.bin .quo (.t 18) (.c (.int .i64 10))),O 20 (.call 95 [(.t 19)]),O 21 (.mv (.t 0)),O 22 (.bin .rem (.t 21) (.c (.int .i64 10))),O 23 (.bin .add (.c (.int .i64 48)) (.t 22)),O 24 (.conv .u8 (.t 23)),O 25 (.bsl 1 [(.t 24)]),O 26 (.b2s (.t 25)),O 27 (.bin .add (.t 20) (.t 26)),O 2 (.mv (.t 27))])
 (.ret)))))
def cy95:List (Nat×An):=[(2,.t .str),(16,.t (.lst (.int .u8))),(25,.t (.lst (.int .u8)))]
def c96:CC :=
 .seq (.reg [1,3,5,6] [O 3 (.boxm 2 (.t 0)),O 5 (.boxi 8 (.t 2)),O 6 (.alloc [(.str []),.e0])])
 (.seq (.regd [1,3,5,6] [0,1,2,3,4,5,6] [0,0,3,0,8,31,63] [1,0,4,0,0,4,4] [O 10 (.load (some 2) (.t 3)),O 11 (.mv (.t 1)),O 12 (.call 115 [(.t 10),(.t 11)]),O 13 (.fa 1 (.t 5)),O 14 (.load none (.t 13)),O 15 (.call 115 [(.t 12),(.t 14)]),.mk none none (.store 2 (.t 3) (.t 15))])
 (.seq (.reg [3,5,6,7] [O 16 (.load (some 2) (.t 3)),O 17 (.mv (.t 1)),O 18 (.call 98 [(.t 16),(.t 17)]),O 7 (.mv (.t 18))])
 (.seq (.regd [3,5,6,7,8] [0,1,2,3,4,5,6,7,8] [0,1,0,7,15,0,32,127,255] [0,1,0,0,1,0,0,4,0] [O 19 (.fa 1 (.t 3)),O 20 (.load none (.t 19)),O 21 (.mv (.t 7)),O 22 (.ia 3 (.t 20) (.t 21)),O 23 (.load (some 3) (.t 22)),O 24 (.fa 0 (.t 5)),O 25 (.load none (.t 24)),O 26 (.call 116 [(.t 23),(.t 25)]),O 8 (.mv (.t 26))])
 (.seq (.seq (.reg [3,5,6,7,8,28] [O 27 (.mv (.t 8)),O 28 (.bin .geq (.t 27) (.c (.int .i64 0)))])
 (.cond (.t 28) (.seq (.seq (.reg [3,5,6,7,8,39] [O 29 (.fa 1 (.t 3)),O 30 (.load none (.t 29)),O 31 (.mv (.t 7)),O 32 (.ia 3 (.t 30) (.t 31)),O 33 (.fa 2 (.t 32)),O 34 (.load none (.t 33)),O 35 (.mv (.t 8)),O 36 (.ia 8 (.t 34) (.t 35)),O 37 (.fa 4 (.t 36)),O 38 (.load none (.t 37)),O 39 (.not (.t 38))])
 (.cond (.t 39) (.seq (.reg [6] [O 40 (.load (some 2) (.t 3)),.mk none none (.store 2 (.t 6) (.t 40))])
 (.ret)) (.skip)))
 (.seq (.regd [3,6] [0,1,2,3,4,5,6,7,8,9] [0,1,0,7,15,31,0,0,255,511] [0,1,0,0,0,1,0,0,0,4] [O 41 (.fa 1 (.t 3)),O 42 (.load none (.t 41)),O 43 (.mv (.t 7)),O 44 (.ia 3 (.t 42) (.t 43)),O 45 (.fa 2 (.t 44)),O 46 (.load none (.t 45)),O 47 (.mv (.t 8)),O 48 (.load (some 8) (.t 5)),O 49 (.ia 8 (.t 46) (.t 47)),.mk none none (.store 8 (.t 49) (.t 48))])
 (.seq (.reg [6] [O 50 (.load (some 2) (.t 3)),.mk none none (.store 2 (.t 6) (.t 50))])
 (.ret)))) (.skip)))
 (.seq (.seq (.reg [3,5,6,7,9] [O 9 (.mv (.c (.int .i64 0)))])
 (.block 0 (.lp false 0 [9] [3,5,6,7] (.seq (.seq (.reg [3,5,6,7,9,55] [O 51 (.mv (.t 9)),O 52 (.fa 7 (.t 5)),O 53 (.load none (.t 52)),O 54 (.lenl (.t 53)),O 55 (.bin .lss (.t 51) (.t 54))])
 (.cond (.t 55) (.skip) (.exit 0)))
 (.seq (.block 1 (.seq (.regd [3,5,6,7,9,69] [0,1,2,3,4,5,6,7,8,9,10,11] [0,1,0,7,15,0,32,0,224,480,1023,2047] [0,1,0,0,1,0,0,0,0,0,4,0] [O 58 (.fa 1 (.t 3)),O 59 (.load none (.t 58)),O 60 (.mv (.t 7)),O 61 (.ia 3 (.t 59) (.t 60)),O 62 (.load (some 3) (.t 61)),O 63 (.fa 7 (.t 5)),O 64 (.load none (.t 63)),O 65 (.mv (.t 9)),O 66 (.ia 1 (.t 64) (.t 65)),O 67 (.load none (.t 66)),O 68 (.call 116 [(.t 62),(.t 67)]),O 69 (.bin .lss (.t 68) (.c (.int .i64 0)))])
 (.jn false [] [3,5,6,7,9] (.cond (.t 69) (.regd [3,5,6,7,9] [0,1,2,3,4,5,6,7,8,9,10,11,12,13,14,15,16,17,18,19] [0,1,0,0,8,0,56,120,248,0,512,0,3584,7680,15872,32256,65528,131071,262143,524287] [0,1,0,0,1,0,0,0,1,0,0,0,0,0,0,3,3,0,0,4] [O 70 (.fa 1 (.t 3)),O 71 (.load none (.t 70)),O 72 (.mv (.t 7)),O 73 (.fa 1 (.t 3)),O 74 (.load none (.t 73)),O 75 (.mv (.t 7)),O 76 (.ia 3 (.t 74) (.t 75)),O 77 (.fa 2 (.t 76)),O 78 (.load none (.t 77)),O 79 (.fa 7 (.t 5)),O 80 (.load none (.t 79)),O 81 (.mv (.t 9)),O 82 (.ia 1 (.t 80) (.t 81)),O 83 (.load none (.t 82)),O 84 (.build [(.str []),(.str []),(.bool false),(.bool false),(.bool false),(.bool false),(.bool false),.sl 1 []] [(0,1,(.t 83)),(1,1,(.c (.str [105,110,116]))),(4,1,(.c (.bool true)))]),O 85 (.bslm 8 [(.t 84)]),O 86 (.app 8 (.t 78) (.t 85)),O 87 (.ia 3 (.t 71) (.t 72)),O 88 (.fa 2 (.t 87)),.mk none none (.store 1 (.t 88) (.t 86))]) (.skip)))))
 (.reg [3,5,6,7,9] [O 56 (.mv (.t 9)),O 57 (.bin .add (.t 56) (.c (.int .i64 1))),O 9 (.mv (.t 57))]))))))
 (.seq (.regd [3,6] [0,1,2,3,4,5,6,7,8,9,10,11,12,13,14] [0,1,0,0,8,0,56,120,248,0,512,2040,4095,8191,16383] [0,1,0,0,1,0,0,0,1,0,3,3,0,0,4] [O 89 (.fa 1 (.t 3)),O 90 (.load none (.t 89)),O 91 (.mv (.t 7)),O 92 (.fa 1 (.t 3)),O 93 (.load none (.t 92)),O 94 (.mv (.t 7)),O 95 (.ia 3 (.t 93) (.t 94)),O 96 (.fa 2 (.t 95)),O 97 (.load none (.t 96)),O 98 (.load (some 8) (.t 5)),O 99 (.bslm 8 [(.t 98)]),O 100 (.app 8 (.t 97) (.t 99)),O 101 (.ia 3 (.t 90) (.t 91)),O 102 (.fa 2 (.t 101)),.mk none none (.store 1 (.t 102) (.t 100))])
 (.seq (.reg [6] [O 103 (.load (some 2) (.t 3)),.mk none none (.store 2 (.t 6) (.t 103))])
 (.ret))))))))
def cy96:List (Nat×An):=[(3,.cells ⟨some .Part,[some (.str,.no),some ((.lst (.nm .Typ)),.at [(2,.no)])]⟩),(5,.cells ⟨some .Field,[some (.str,.no),some (.str,.no),some (.bool,.no),some (.bool,.no),some (.bool,.no),some (.bool,.no),some (.bool,.no),some ((.lst .str),.no)]⟩),(6,.cells ⟨some .Part,[some (.str,.no),some ((.lst (.nm .Typ)),.at [(2,.no)])]⟩),(10,.t (.nm .Part)),(16,.t (.nm .Part)),(23,.t (.nm .Typ)),(40,.t (.nm .Part)),(50,.t (.nm .Part)),(9,.t (.int .i64)),(62,.t (.nm .Typ)),(84,.t (.nm .Field)),(85,.t (.lst (.nm .Field))),(86,.t (.lst (.nm .Field))),(98,.t (.nm .Field)),(99,.t (.lst (.nm .Field))),(100,.t (.lst (.nm .Field))),(103,.t (.nm .Part))]
def c97:CC :=
 .seq (.reg [0,3] [O 3 (.boxi 2 (.t 1)),O 4 (.mv (.c .nilp))])
 (.seq (.reg [0,3,5] [O 7 (.build [(.int .i64 0),(.str [])] [(1,1,(.c (.str [113,117,101,114,121])))]),O 8 (.bslm 2 [(.t 7)]),O 9 (.bsl 1 []),O 10 (.bslm 1 [(.t 9)]),O 11 (.build [.e0,.e0,.sl 1 []] [(0,1,(.t 8)),(1,1,(.t 10))]),O 12 (.boxm 3 (.t 11)),O 5 (.mv (.t 12))])
 (.seq (.seq (.reg [0,3,5,6] [O 6 (.mv (.c (.int .i64 0)))])
 (.block 0 (.lp false 0 [6] [0,3,5] (.seq (.seq (.reg [0,3,5,6,19] [O 13 (.mv (.t 6)),O 14 (.mv (.t 5)),O 15 (.nilc (.t 14)),O 16 (.fa 0 (.t 15)),O 17 (.load none (.t 16)),O 18 (.lenl (.t 17)),O 19 (.bin .lss (.t 13) (.t 18))])
 (.cond (.t 19) (.skip) (.exit 0)))
 (.seq (.block 1 (.reg [0,3,5,6] [O 22 (.mv (.t 5)),O 23 (.mv (.t 0)),O 24 (.load (some 2) (.t 3)),O 25 (.mv (.t 6)),O 26 (.call 117 [(.t 22),(.t 23),(.t 24),(.t 25)])]))
 (.reg [0,3,5,6] [O 20 (.mv (.t 6)),O 21 (.bin .add (.t 20) (.c (.int .i64 1))),O 6 (.mv (.t 21))]))))))
 (.seq (.reg [4] [O 27 (.mv (.t 5)),O 4 (.mv (.t 27))])
 (.ret))))
def cy97:List (Nat×An):=[(3,.cells ⟨some .Part,[some (.str,.no),some ((.lst (.nm .Typ)),.no)]⟩),(7,.t (.nm .Stt)),(8,.t (.lst (.nm .Stt))),(9,.t (.lst .str)),(10,.t (.lst (.lst .str))),(12,.cells ⟨none,[some ((.lst (.nm .Stt)),.no),some ((.lst (.lst .str)),.no),some ((.lst .str),.no)]⟩),(6,.t (.int .i64)),(13,.t (.int .i64)),(17,.t (.lst (.nm .Stt))),(18,.t (.int .i64)),(19,.t .bool),(23,.t (.lst (.nm .Part))),(24,.t (.nm .Part)),(25,.t (.int .i64)),(20,.t (.int .i64)),(21,.t (.int .i64))]
def c98:CC :=
 .seq (.reg [1,2] [O 2 (.boxi 2 (.t 0)),O 4 (.mv (.c (.int .i64 0)))])
 (.seq (.seq (.reg [1,2,5] [O 5 (.mv (.c (.int .i64 0)))])
 (.block 0 (.lp true 0 [5] [1,2] (.seq (.seq (.reg [1,2,5,10] [O 6 (.mv (.t 5)),O 7 (.fa 1 (.t 2)),O 8 (.load none (.t 7)),O 9 (.lenl (.t 8)),O 10 (.bin .lss (.t 6) (.t 9))])
 (.cond (.t 10) (.skip) (.exit 0)))
 (.seq (.block 1 (.seq (.reg [1,2,5,20] [O 13 (.fa 1 (.t 2)),O 14 (.load none (.t 13)),O 15 (.mv (.t 5)),O 16 (.ia 3 (.t 14) (.t 15)),O 17 (.fa 0 (.t 16)),O 18 (.load none (.t 17)),O 19 (.mv (.t 1)),O 20 (.bin .eql (.t 18) (.t 19))])
 (.cond (.t 20) (.seq (.reg [4] [O 21 (.mv (.t 5)),O 4 (.mv (.t 21))])
 (.ret)) (.skip))))
 (.reg [1,2,5] [O 11 (.mv (.t 5)),O 12 (.bin .add (.t 11) (.c (.int .i64 1))),O 5 (.mv (.t 12))]))))))
 (.seq (.reg [4] [O 4 (.mv (.c (.int .i64 (-1))))])
 (.ret)))
def cy98:List (Nat×An):=[(2,.cells ⟨some .Part,[some (.str,.no),some ((.lst (.nm .Typ)),.no)]⟩),(4,.t (.int .i64)),(5,.t (.int .i64))]
def c99:CC :=
 .seq (.reg [0,1] [O 4 (.mv (.c (.str [])))])
 (.seq (.reg [4] [O 5 (.mv (.t 1)),O 6 (.mv (.t 0)),O 7 (.mv (.t 1)),O 8 (.lenl (.t 7)),O 9 (.call 33 [(.t 6),(.t 8)]),O 10 (.ia 1 (.t 5) (.t 9)),O 11 (.load none (.t 10)),O 4 (.mv (.t 11))])
 (.ret))
def cy99:List (Nat×An):=[(4,.t .str)]
def c100:CC :=
 .seq (.reg [0] [O 2 (.mv (.c (.bool false)))])
 (.seq (.reg [2] [O 3 (.mv (.t 0)),O 4 (.bin .eql (.t 3) (.c (.str [105,110,116]))),O 5 (.mv (.t 4)),.mk (some 6) (some (5,false)) (.mv (.t 0)),.mk (some 7) (some (5,false)) (.bin .eql (.t 6) (.c (.str [116,101,120,116]))),O 8 (.pick (.t 5) (.c (.bool true)) (.t 7)),O 9 (.mv (.t 8)),.mk (some 10) (some (9,false)) (.mv (.t 0)),.mk (some 11) (some (9,false)) (.bin .eql (.t 10) (.c (.str [98,111,111,108]))),O 12 (.pick (.t 9) (.c (.bool true)) (.t 11)),O 2 (.mv (.t 12))])
 (.ret))
def cy100:List (Nat×An):=[(2,.t .bool)]
def c101:CC :=
 .seq (.reg [1] [O 1 (.boxi 5 (.t 0)),O 2 (.mv (.c (.str [])))])
 (.seq (.seq (.reg [1,5] [O 3 (.fa 0 (.t 1)),O 4 (.load none (.t 3)),O 5 (.bin .neq (.t 4) (.c (.str [])))])
 (.cond (.t 5) (.seq (.reg [2] [O 6 (.fa 0 (.t 1)),O 7 (.load none (.t 6)),O 2 (.mv (.t 7))])
 (.ret)) (.skip)))
 (.seq (.reg [2] [O 8 (.fa 1 (.t 1)),O 9 (.load none (.t 8)),O 2 (.mv (.t 9))])
 (.ret)))
def cy101:List (Nat×An):=[(1,.cells ⟨some .Sel,[some (.str,.no),some (.str,.no),some (.bool,.no),some ((.int .i64),.no),some ((.lst (.nm .Sel)),.no)]⟩),(2,.t .str)]
def c102:CC :=
 .seq (.reg [0,1,2] [O 6 (.mv (.c (.int .i64 0)))])
 (.seq (.reg [0,1,7] [O 11 (.mv (.t 2)),O 7 (.mv (.t 11))])
 (.seq (.seq (.reg [0,1,7,18] [O 12 (.mv (.t 0)),O 13 (.lenl (.t 12)),O 14 (.bin .gtr (.t 13) (.c (.int .i64 0))),O 15 (.mv (.t 14)),.mk (some 16) (some (15,true)) (.mv (.t 1)),.mk (some 17) (some (15,true)) (.bin .gtr (.t 16) (.c (.int .i64 5))),O 18 (.pick (.t 15) (.t 17) (.c (.bool false)))])
 (.cond (.t 18) (.seq (.reg [6] [O 6 (.mv (.c (.int .i64 (-1))))])
 (.ret)) (.skip)))
 (.seq (.seq (.reg [0,1,7,8] [O 8 (.mv (.c (.int .i64 0)))])
 (.block 0 (.lp true 0 [7,8] [0,1] (.seq (.seq (.reg [0,1,7,8,26] [O 19 (.mv (.t 8)),O 20 (.mv (.t 0)),O 21 (.lenl (.t 20)),O 22 (.bin .lss (.t 19) (.t 21)),O 23 (.mv (.t 22)),.mk (some 24) (some (23,true)) (.mv (.t 7)),.mk (some 25) (some (23,true)) (.bin .geq (.t 24) (.c (.int .i64 0))),O 26 (.pick (.t 23) (.t 25) (.c (.bool false)))])
 (.cond (.t 26) (.skip) (.exit 0)))
 (.seq (.block 1 (.seq (.reg [0,1,7,8,9] [O 29 (.mv (.t 0)),O 30 (.mv (.t 8)),O 31 (.ia 5 (.t 29) (.t 30)),O 32 (.load (some 5) (.t 31)),O 9 (.alloc [(.str []),(.str []),(.bool false),(.int .i64 0),.e0]),.mk none none (.store 5 (.t 9) (.t 32))])
 (.frz 9 0 (.seq (.seq (.reg [0,1,7,8,9,70] [O 33 (.fa 1 (.t 9)),O 34 (.load none (.t 33)),O 35 (.call 107 [(.t 34)]),O 36 (.not (.t 35)),O 37 (.mv (.t 36)),.mk (some 38) (some (37,false)) (.fa 0 (.t 9)),.mk (some 39) (some (37,false)) (.load none (.t 38)),.mk (some 40) (some (37,false)) (.bin .neq (.t 39) (.c (.str []))),.mk (some 41) (some (37,false)) (.mv (.t 40)),.mk (some 42) (some (41,true)) (.fa 0 (.t 9)),.mk (some 43) (some (41,true)) (.load none (.t 42)),.mk (some 44) (some (41,true)) (.call 107 [(.t 43)]),.mk (some 45) (some (41,true)) (.not (.t 44)),.mk (some 46) (some (41,true)) (.mv (.t 45)),.mk (some 47) (some (46,false)) (.fa 0 (.t 9)),.mk (some 48) (some (46,false)) (.load none (.t 47)),.mk (some 49) (some (46,false)) (.fa 1 (.t 9)),.mk (some 50) (some (46,false)) (.load none (.t 49)),.mk (some 51) (some (46,false)) (.bin .eql (.t 48) (.t 50)),.mk (some 52) (some (41,true)) (.pick (.t 46) (.c (.bool true)) (.t 51)),.mk (some 53) (some (37,false)) (.pick (.t 41) (.t 52) (.c (.bool false))),O 54 (.pick (.t 37) (.c (.bool true)) (.t 53)),O 55 (.mv (.t 54)),.mk (some 56) (some (55,false)) (.fa 2 (.t 9)),.mk (some 57) (some (55,false)) (.load none (.t 56)),.mk (some 58) (some (55,false)) (.not (.t 57)),.mk (some 59) (some (55,false)) (.mv (.t 58)),.mk (some 60) (some (59,true)) (.fa 3 (.t 9)),.mk (some 61) (some (59,true)) (.load none (.t 60)),.mk (some 62) (some (59,true)) (.bin .neq (.t 61) (.c (.int .i64 0))),.mk (some 63) (some (55,false)) (.pick (.t 59) (.t 62) (.c (.bool false))),O 64 (.pick (.t 55) (.c (.bool true)) (.t 63)),O 65 (.mv (.t 64)),.mk (some 66) (some (65,false)) (.fa 3 (.t 9)),.mk (some 67) (some (65,false)) (.load none (.t 66)),.mk (some 68) (some (65,false)) (.call 35 [(.t 67),(.c (.int .i64 0)),(.c (.int .i64 999999))]),.mk (some 69) (some (65,false)) (.not (.t 68)),O 70 (.pick (.t 65) (.c (.bool true)) (.t 69))])
 (.cond (.t 70) (.seq (.reg [6] [O 6 (.mv (.c (.int .i64 (-1))))])
 (.ret)) (.skip)))
 (.seq (.seq (.reg [0,1,7,8,9,10] [O 10 (.mv (.c (.int .i64 0)))])
 (.block 2 (.lp true 2 [10] [0,1,7,8,9] (.seq (.seq (.reg [0,1,7,8,9,10,73] [O 71 (.mv (.t 10)),O 72 (.mv (.t 8)),O 73 (.bin .lss (.t 71) (.t 72))])
 (.cond (.t 73) (.skip) (.exit 2)))
 (.seq (.block 3 (.seq (.regd [0,1,7,8,9,10,83] [0,1,2,3,4,5,6,7] [0,0,3,7,15,0,63,127] [0,0,0,1,4,0,4,0] [O 76 (.mv (.t 0)),O 77 (.mv (.t 10)),O 78 (.ia 5 (.t 76) (.t 77)),O 79 (.load (some 5) (.t 78)),O 80 (.call 101 [(.t 79)]),O 81 (.load (some 5) (.t 9)),O 82 (.call 101 [(.t 81)]),O 83 (.bin .eql (.t 80) (.t 82))])
 (.cond (.t 83) (.seq (.reg [6] [O 6 (.mv (.c (.int .i64 (-1))))])
 (.ret)) (.skip))))
 (.reg [0,1,7,8,9,10] [O 74 (.mv (.t 10)),O 75 (.bin .add (.t 74) (.c (.int .i64 1))),O 10 (.mv (.t 75))]))))))
 (.reg [0,1,7,8] [O 84 (.fa 4 (.t 9)),O 85 (.load none (.t 84)),O 86 (.mv (.t 1)),O 87 (.bin .add (.t 86) (.c (.int .i64 1))),O 88 (.mv (.t 7)),O 89 (.bin .sub (.t 88) (.c (.int .i64 1))),O 90 (.call 102 [(.t 85),(.t 87),(.t 89)]),O 7 (.mv (.t 90))]))))))
 (.reg [0,1,7,8] [O 27 (.mv (.t 8)),O 28 (.bin .add (.t 27) (.c (.int .i64 1))),O 8 (.mv (.t 28))]))))))
 (.seq (.reg [6] [O 91 (.mv (.t 7)),O 6 (.mv (.t 91))])
 (.ret)))))
def cy102:List (Nat×An):=[(6,.t (.int .i64)),(7,.t (.int .i64)),(18,.t .bool),(8,.t (.int .i64)),(26,.t .bool),(32,.t (.nm .Sel)),(9,.cells ⟨some .Sel,[some (.str,.no),some (.str,.no),some (.bool,.no),some ((.int .i64),.no),some ((.lst (.nm .Sel)),.no)]⟩),(70,.t .bool),(10,.t (.int .i64)),(79,.t (.nm .Sel)),(81,.t (.nm .Sel))]
def c103:CC :=
 .seq (.reg [0] [O 2 (.mv (.c (.str [])))])
 (.seq (.reg [0,3] [O 3 (.mv (.c (.str [123])))])
 (.seq (.seq (.reg [0,3,4] [O 4 (.mv (.c (.int .i64 0)))])
 (.block 0 (.lp false 0 [3,4] [0] (.seq (.seq (.reg [0,3,4,9] [O 6 (.mv (.t 4)),O 7 (.mv (.t 0)),O 8 (.lenl (.t 7)),O 9 (.bin .lss (.t 6) (.t 8))])
 (.cond (.t 9) (.skip) (.exit 0)))
 (.seq (.block 1 (.seq (.reg [0,3,4,5] [O 12 (.mv (.t 0)),O 13 (.mv (.t 4)),O 14 (.ia 5 (.t 12) (.t 13)),O 15 (.load (some 5) (.t 14)),O 5 (.alloc [(.str []),(.str []),(.bool false),(.int .i64 0),.e0]),.mk none none (.store 5 (.t 5) (.t 15))])
 (.frz 5 0 (.seq (.seq (.reg [0,3,4,5,17] [O 16 (.mv (.t 4)),O 17 (.bin .gtr (.t 16) (.c (.int .i64 0)))])
 (.jn false [3] [0,4,5] (.cond (.t 17) (.reg [0,3,4,5] [O 18 (.mv (.t 3)),O 19 (.bin .add (.t 18) (.c (.str [44]))),O 3 (.mv (.t 19))]) (.skip))))
 (.seq (.seq (.reg [0,3,4,5,22] [O 20 (.fa 0 (.t 5)),O 21 (.load none (.t 20)),O 22 (.bin .neq (.t 21) (.c (.str [])))])
 (.jn false [3] [0,4,5] (.cond (.t 22) (.reg [0,3,4,5] [O 23 (.mv (.t 3)),O 24 (.fa 0 (.t 5)),O 25 (.load none (.t 24)),O 26 (.bin .add (.t 23) (.t 25)),O 27 (.bin .add (.t 26) (.c (.str [58]))),O 3 (.mv (.t 27))]) (.skip))))
 (.seq (.reg [0,3,4,5] [O 28 (.mv (.t 3)),O 29 (.fa 1 (.t 5)),O 30 (.load none (.t 29)),O 31 (.bin .add (.t 28) (.t 30)),O 3 (.mv (.t 31))])
 (.seq (.seq (.reg [0,3,4,5,33] [O 32 (.fa 2 (.t 5)),O 33 (.load none (.t 32))])
 (.jn false [3] [0,4,5] (.cond (.t 33) (.reg [0,3,4,5] [O 34 (.mv (.t 3)),O 35 (.bin .add (.t 34) (.c (.str [40]))),O 36 (.fa 3 (.t 5)),O 37 (.load none (.t 36)),O 38 (.call 95 [(.t 37)]),O 39 (.bin .add (.t 35) (.t 38)),O 40 (.bin .add (.t 39) (.c (.str [41]))),O 3 (.mv (.t 40))]) (.skip))))
 (.seq (.reg [0,3,4,5,44] [O 41 (.fa 4 (.t 5)),O 42 (.load none (.t 41)),O 43 (.lenl (.t 42)),O 44 (.bin .gtr (.t 43) (.c (.int .i64 0)))])
 (.jn false [3] [0,4] (.cond (.t 44) (.reg [0,3,4] [O 45 (.mv (.t 3)),O 46 (.fa 4 (.t 5)),O 47 (.load none (.t 46)),O 48 (.call 103 [(.t 47)]),O 49 (.bin .add (.t 45) (.t 48)),O 3 (.mv (.t 49))]) (.skip)))))))))))
 (.reg [0,3,4] [O 10 (.mv (.t 4)),O 11 (.bin .add (.t 10) (.c (.int .i64 1))),O 4 (.mv (.t 11))]))))))
 (.seq (.reg [2] [O 50 (.mv (.t 3)),O 51 (.bin .add (.t 50) (.c (.str [125]))),O 2 (.mv (.t 51))])
 (.ret))))
def cy103:List (Nat×An):=[(2,.t .str),(3,.t .str),(4,.t (.int .i64)),(15,.t (.nm .Sel)),(5,.cells ⟨some .Sel,[some (.str,.no),some (.str,.no),some (.bool,.no),some ((.int .i64),.no),some ((.lst (.nm .Sel)),.no)]⟩)]
def c104:CC :=
 .seq (.reg [0,1] [O 4 (.mv (.c (.str [])))])
 (.seq (.seq (.reg [0,1,5] [O 5 (.mv (.c (.int .i64 0)))])
 (.block 0 (.lp true 0 [5] [0,1] (.seq (.seq (.reg [0,1,5,10] [O 7 (.mv (.t 5)),O 8 (.mv (.t 0)),O 9 (.lenl (.t 8)),O 10 (.bin .lss (.t 7) (.t 9))])
 (.cond (.t 10) (.skip) (.exit 0)))
 (.seq (.block 1 (.seq (.reg [0,1,5,6] [O 13 (.mv (.t 0)),O 14 (.mv (.t 5)),O 15 (.ia 2 (.t 13) (.t 14)),O 16 (.load (some 2) (.t 15)),O 17 (.mv (.t 1)),O 18 (.call 98 [(.t 16),(.t 17)]),O 6 (.mv (.t 18))])
 (.seq (.reg [0,1,5,6,32] [O 19 (.mv (.t 6)),O 20 (.bin .geq (.t 19) (.c (.int .i64 0))),O 21 (.mv (.t 20)),.mk (some 22) (some (21,true)) (.mv (.t 0)),.mk (some 23) (some (21,true)) (.mv (.t 5)),.mk (some 24) (some (21,true)) (.ia 2 (.t 22) (.t 23)),.mk (some 25) (some (21,true)) (.fa 1 (.t 24)),.mk (some 26) (some (21,true)) (.load none (.t 25)),.mk (some 27) (some (21,true)) (.mv (.t 6)),.mk (some 28) (some (21,true)) (.ia 3 (.t 26) (.t 27)),.mk (some 29) (some (21,true)) (.fa 1 (.t 28)),.mk (some 30) (some (21,true)) (.load none (.t 29)),.mk (some 31) (some (21,true)) (.bin .neq (.t 30) (.c (.str []))),O 32 (.pick (.t 21) (.t 31) (.c (.bool false)))])
 (.cond (.t 32) (.seq (.reg [4] [O 33 (.mv (.t 0)),O 34 (.mv (.t 5)),O 35 (.ia 2 (.t 33) (.t 34)),O 36 (.fa 1 (.t 35)),O 37 (.load none (.t 36)),O 38 (.mv (.t 6)),O 39 (.ia 3 (.t 37) (.t 38)),O 40 (.fa 1 (.t 39)),O 41 (.load none (.t 40)),O 4 (.mv (.t 41))])
 (.ret)) (.skip)))))
 (.reg [0,1,5] [O 11 (.mv (.t 5)),O 12 (.bin .add (.t 11) (.c (.int .i64 1))),O 5 (.mv (.t 12))]))))))
 (.seq (.reg [4] [O 4 (.mv (.c (.str [])))])
 (.ret)))
def cy104:List (Nat×An):=[(4,.t .str),(5,.t (.int .i64)),(16,.t (.nm .Part)),(6,.t (.int .i64)),(32,.t .bool)]
def c105:CC :=
 .seq (.reg [0,2,7] [O 7 (.boxi 8 (.t 3)),O 8 (.mv (.c (.int .i64 0)))])
 (.seq (.reg [0,2,7,9] [O 19 (.mv (.t 0)),O 20 (.mv (.t 2)),O 21 (.fa 0 (.t 7)),O 22 (.load none (.t 21)),O 23 (.call 88 [(.t 19),(.t 20),(.t 22)]),O 9 (.mv (.t 23))])
 (.seq (.reg [0,2,7,9,10] [O 10 (.mv (.c (.int .i64 0)))])
 (.seq (.reg [0,2,7,9,10,11] [O 11 (.mv (.c (.int .i64 0)))])
 (.seq (.seq (.reg [0,2,7,9,10,11,12] [O 12 (.mv (.c (.int .i64 0)))])
 (.block 0 (.lp true 0 [10,11,12] [0,2,7,9] (.seq (.seq (.reg [0,2,7,9,10,11,12,27] [O 24 (.mv (.t 12)),O 25 (.mv (.t 0)),O 26 (.lenl (.t 25)),O 27 (.bin .lss (.t 24) (.t 26))])
 (.cond (.t 27) (.skip) (.exit 0)))
 (.seq (.block 1 (.seq (.regd [0,2,7,9,10,11,12,13,14] [0,1,2,3,4,5,6,7,8,9,10,11,12,13] [0,0,3,7,0,0,32,127,255,511,511,0,3071,8191] [0,0,0,1,0,0,0,4,0,0,0,4,4,0] [O 31 (.mv (.t 0)),O 32 (.mv (.t 12)),O 33 (.ia 2 (.t 31) (.t 32)),O 34 (.load (some 2) (.t 33)),O 35 (.mv (.t 2)),O 36 (.fa 0 (.t 7)),O 37 (.load none (.t 36)),O 38 (.call 110 [(.t 34),(.t 35),(.t 37)]),O 30 (.mv (.t 38)),O 39 (.ext (.t 30) 0),O 40 (.ext (.t 30) 1),O 13 (.alloc [(.str []),(.str []),(.bool false),(.bool false),(.bool false),(.bool false),(.bool false),.e0]),.mk none none (.store 8 (.t 13) (.t 39)),O 14 (.mv (.t 40))])
 (.frz 13 0 (.seq (.seq (.reg [0,2,7,9,10,11,12,13,14,47] [O 41 (.mv (.t 14)),O 42 (.mv (.t 41)),.mk (some 43) (some (42,true)) (.load (some 8) (.t 7)),.mk (some 44) (some (42,true)) (.load (some 8) (.t 13)),.mk (some 45) (some (42,true)) (.call 118 [(.t 43),(.t 44)]),.mk (some 46) (some (42,true)) (.not (.t 45)),O 47 (.pick (.t 42) (.t 46) (.c (.bool false)))])
 (.cond (.t 47) (.seq (.reg [8] [O 8 (.mv (.c (.int .i64 3)))])
 (.ret)) (.skip)))
 (.seq (.seq (.reg [0,2,7,9,10,11,12,13,14,52] [O 48 (.mv (.t 14)),O 49 (.mv (.t 48)),.mk (some 50) (some (49,true)) (.fa 6 (.t 13)),.mk (some 51) (some (49,true)) (.load none (.t 50)),O 52 (.pick (.t 49) (.t 51) (.c (.bool false)))])
 (.jn false [10] [0,2,7,9,11,12,13,14] (.cond (.t 52) (.reg [0,2,7,9,10,11,12,13,14] [O 53 (.mv (.t 10)),O 54 (.bin .add (.t 53) (.c (.int .i64 1))),O 10 (.mv (.t 54))]) (.skip))))
 (.seq (.reg [0,2,7,9,10,11,12,61] [O 55 (.mv (.t 14)),O 56 (.mv (.t 55)),.mk (some 57) (some (56,true)) (.fa 7 (.t 13)),.mk (some 58) (some (56,true)) (.load none (.t 57)),.mk (some 59) (some (56,true)) (.lenl (.t 58)),.mk (some 60) (some (56,true)) (.bin .gtr (.t 59) (.c (.int .i64 0))),O 61 (.pick (.t 56) (.t 60) (.c (.bool false)))])
 (.jn false [11] [0,2,7,9,10,12] (.cond (.t 61) (.reg [0,2,7,9,10,11,12] [O 62 (.mv (.t 11)),O 63 (.bin .add (.t 62) (.c (.int .i64 1))),O 11 (.mv (.t 63))]) (.skip)))))))))
 (.reg [0,2,7,9,10,11,12] [O 28 (.mv (.t 12)),O 29 (.bin .add (.t 28) (.c (.int .i64 1))),O 12 (.mv (.t 29))]))))))
 (.seq (.seq (.reg [0,2,7,9,10,11,66] [O 64 (.mv (.t 9)),O 65 (.lenl (.t 64)),O 66 (.bin .eql (.t 65) (.c (.int .i64 0)))])
 (.cond (.t 66) (.seq (.reg [8] [O 8 (.mv (.c (.int .i64 6)))])
 (.ret)) (.skip)))
 (.seq (.seq (.regd [0,2,7,9,11,83] [0,1,2,3,4,5,6,7,8,9,10,11,12,13,14,15,16] [0,1,3,7,15,31,15,15,207,511,1023,2047,4095,4095,12287,32767,65535] [0,0,0,0,0,0,0,0,4,0,0,0,0,0,0,0,0] [O 67 (.mv (.t 9)),O 68 (.lenl (.t 67)),O 69 (.bin .gtr (.t 68) (.c (.int .i64 1))),O 70 (.mv (.t 69)),.mk (some 71) (some (70,true)) (.fa 0 (.t 7)),.mk (some 72) (some (70,true)) (.load none (.t 71)),.mk (some 73) (some (70,true)) (.mv (.t 0)),.mk (some 74) (some (70,true)) (.mv (.t 2)),.mk (some 75) (some (70,true)) (.call 104 [(.t 73),(.t 74)]),.mk (some 76) (some (70,true)) (.bin .neq (.t 72) (.t 75)),O 77 (.pick (.t 70) (.t 76) (.c (.bool false))),O 78 (.mv (.t 77)),.mk (some 79) (some (78,true)) (.mv (.t 10)),.mk (some 80) (some (78,true)) (.mv (.t 9)),.mk (some 81) (some (78,true)) (.lenl (.t 80)),.mk (some 82) (some (78,true)) (.bin .lss (.t 79) (.t 81)),O 83 (.pick (.t 78) (.t 82) (.c (.bool false)))])
 (.cond (.t 83) (.seq (.reg [8] [O 8 (.mv (.c (.int .i64 5)))])
 (.ret)) (.skip)))
 (.seq (.seq (.reg [0,2,7,90] [O 84 (.mv (.t 11)),O 85 (.bin .gtr (.t 84) (.c (.int .i64 0))),O 86 (.mv (.t 85)),.mk (some 87) (some (86,true)) (.mv (.t 9)),.mk (some 88) (some (86,true)) (.lenl (.t 87)),.mk (some 89) (some (86,true)) (.bin .gtr (.t 88) (.c (.int .i64 1))),O 90 (.pick (.t 86) (.t 89) (.c (.bool false)))])
 (.cond (.t 90) (.seq (.reg [8] [O 8 (.mv (.c (.int .i64 7)))])
 (.ret)) (.skip)))
 (.seq (.seq (.reg [0,2,7,15] [O 15 (.mv (.c (.int .i64 0)))])
 (.block 2 (.lp true 2 [15] [0,2,7] (.seq (.seq (.reg [0,2,7,15,95] [O 91 (.mv (.t 15)),O 92 (.fa 7 (.t 7)),O 93 (.load none (.t 92)),O 94 (.lenl (.t 93)),O 95 (.bin .lss (.t 91) (.t 94))])
 (.cond (.t 95) (.skip) (.exit 2)))
 (.seq (.block 3 (.seq (.reg [0,2,7,15,16] [O 16 (.mv (.c (.int .i64 0)))])
 (.block 4 (.lp true 4 [16] [0,2,7,15] (.seq (.seq (.reg [0,2,7,15,16,101] [O 98 (.mv (.t 16)),O 99 (.mv (.t 0)),O 100 (.lenl (.t 99)),O 101 (.bin .lss (.t 98) (.t 100))])
 (.cond (.t 101) (.skip) (.exit 4)))
 (.seq (.block 5 (.seq (.regd [0,2,7,15,16,17,18] [0,1,2,3,4,5,6,7,8,9,10,11,12,13,14,15,16] [0,0,3,7,0,0,32,0,224,480,1023,2047,4095,4095,0,24575,65535] [0,0,0,1,0,0,0,0,0,0,4,0,0,0,4,4,0] [O 105 (.mv (.t 0)),O 106 (.mv (.t 16)),O 107 (.ia 2 (.t 105) (.t 106)),O 108 (.load (some 2) (.t 107)),O 109 (.mv (.t 2)),O 110 (.fa 7 (.t 7)),O 111 (.load none (.t 110)),O 112 (.mv (.t 15)),O 113 (.ia 1 (.t 111) (.t 112)),O 114 (.load none (.t 113)),O 115 (.call 110 [(.t 108),(.t 109),(.t 114)]),O 104 (.mv (.t 115)),O 116 (.ext (.t 104) 0),O 117 (.ext (.t 104) 1),O 17 (.alloc [(.str []),(.str []),(.bool false),(.bool false),(.bool false),(.bool false),(.bool false),.e0]),.mk none none (.store 8 (.t 17) (.t 116)),O 18 (.mv (.t 117))])
 (.frz 17 0 (.seq (.reg [0,2,7,15,16,124] [O 118 (.mv (.t 18)),O 119 (.mv (.t 118)),.mk (some 120) (some (119,true)) (.fa 7 (.t 17)),.mk (some 121) (some (119,true)) (.load none (.t 120)),.mk (some 122) (some (119,true)) (.lenl (.t 121)),.mk (some 123) (some (119,true)) (.bin .gtr (.t 122) (.c (.int .i64 0))),O 124 (.pick (.t 119) (.t 123) (.c (.bool false)))])
 (.cond (.t 124) (.seq (.reg [8] [O 8 (.mv (.c (.int .i64 7)))])
 (.ret)) (.skip))))))
 (.reg [0,2,7,15,16] [O 102 (.mv (.t 16)),O 103 (.bin .add (.t 102) (.c (.int .i64 1))),O 16 (.mv (.t 103))])))))))
 (.reg [0,2,7,15] [O 96 (.mv (.t 15)),O 97 (.bin .add (.t 96) (.c (.int .i64 1))),O 15 (.mv (.t 97))]))))))
 (.seq (.reg [8] [O 8 (.mv (.c (.int .i64 0)))])
 (.ret))))))))))
def cy105:List (Nat×An):=[(7,.cells ⟨some .Field,[some (.str,.no),some (.str,.no),some (.bool,.no),some (.bool,.no),some (.bool,.no),some (.bool,.no),some (.bool,.no),some ((.lst .str),.no)]⟩),(8,.t (.int .i64)),(9,.t (.lst (.int .i64))),(10,.t (.int .i64)),(11,.t (.int .i64)),(12,.t (.int .i64)),(34,.t (.nm .Part)),(13,.cells ⟨some .Field,[some (.str,.no),some (.str,.no),some (.bool,.no),some (.bool,.no),some (.bool,.no),some (.bool,.no),some (.bool,.no),some ((.lst .str),.no)]⟩),(14,.t .bool),(43,.t (.nm .Field)),(44,.t (.nm .Field)),(47,.t .bool),(52,.t .bool),(61,.t .bool),(83,.t .bool),(90,.t .bool),(15,.t (.int .i64)),(16,.t (.int .i64)),(108,.t (.nm .Part)),(17,.cells ⟨some .Field,[some (.str,.no),some (.str,.no),some (.bool,.no),some (.bool,.no),some (.bool,.no),some (.bool,.no),some (.bool,.no),some ((.lst .str),.no)]⟩),(124,.t .bool)]
def c106:CC :=
 .seq (.reg [2,3,4] [O 2 (.boxm 3 (.t 0)),O 3 (.boxi 8 (.t 1)),O 4 (.alloc [(.str []),(.str []),.e0])])
 (.seq (.reg [2,3,4,5] [O 7 (.load (some 3) (.t 2)),O 8 (.fa 0 (.t 3)),O 9 (.load none (.t 8)),O 10 (.call 116 [(.t 7),(.t 9)]),O 5 (.mv (.t 10))])
 (.seq (.seq (.reg [2,3,4,5,12] [O 11 (.mv (.t 5)),O 12 (.bin .lss (.t 11) (.c (.int .i64 0)))])
 (.cond (.t 12) (.seq (.regd [2,4] [0,1,2,3,4,5,6,7,8,9,10,11,12,13,14,15,16,17,18,19,20,21,22] [0,0,2,7,0,16,0,64,0,256,0,1024,0,4096,0,0,32768,114703,262143,524287,1048575,2097151,4194303] [0,0,1,3,0,0,0,0,0,0,0,0,0,0,0,0,0,3,0,0,3,0,4] [O 13 (.bsl0),O 14 (.fa 2 (.t 2)),O 15 (.load none (.t 14)),O 16 (.app 8 (.t 13) (.t 15)),O 17 (.fa 0 (.t 3)),O 18 (.load none (.t 17)),O 19 (.fa 1 (.t 3)),O 20 (.load none (.t 19)),O 21 (.fa 2 (.t 3)),O 22 (.load none (.t 21)),O 23 (.fa 3 (.t 3)),O 24 (.load none (.t 23)),O 25 (.fa 5 (.t 3)),O 26 (.load none (.t 25)),O 27 (.bsl0),O 28 (.fa 7 (.t 3)),O 29 (.load none (.t 28)),O 30 (.apf 1 (.t 27) (.t 29)),O 31 (.build [(.str []),(.str []),(.bool false),(.bool false),(.bool false),(.bool false),(.bool false),.sl 1 []] [(0,1,(.t 18)),(1,1,(.t 20)),(2,1,(.t 22)),(3,1,(.t 24)),(5,1,(.t 26)),(7,1,(.t 30))]),O 32 (.bsl 8 [(.t 31)]),O 33 (.app 8 (.t 16) (.t 32)),O 34 (.fa 2 (.t 2)),.mk none none (.store 1 (.t 34) (.t 33))])
 (.seq (.reg [4] [O 35 (.load (some 3) (.t 2)),.mk none none (.store 3 (.t 4) (.t 35))])
 (.ret))) (.skip)))
 (.seq (.reg [2,3,4,5,6] [O 36 (.bsl0),O 37 (.fa 2 (.t 2)),O 38 (.load none (.t 37)),O 39 (.app 8 (.t 36) (.t 38)),O 6 (.mv (.t 39))])
 (.seq (.seq (.reg [2,3,4,5,6,41] [O 40 (.fa 5 (.t 3)),O 41 (.load none (.t 40))])
 (.jn false [] [2,3,4,5,6] (.cond (.t 41) (.reg [2,3,4,5,6] [O 42 (.mv (.t 6)),O 43 (.mv (.t 5)),O 44 (.ia 8 (.t 42) (.t 43)),O 45 (.fa 5 (.t 44)),.mk none none (.store 1 (.t 45) (.c (.bool true)))]) (.skip))))
 (.seq (.seq (.reg [2,3,4,5,6,49] [O 46 (.fa 7 (.t 3)),O 47 (.load none (.t 46)),O 48 (.lenl (.t 47)),O 49 (.bin .gtr (.t 48) (.c (.int .i64 0)))])
 (.jn false [] [2,4,6] (.cond (.t 49) (.reg [2,4,6] [O 50 (.mv (.t 6)),O 51 (.mv (.t 5)),O 52 (.bsl0),O 53 (.fa 7 (.t 3)),O 54 (.load none (.t 53)),O 55 (.apf 1 (.t 52) (.t 54)),O 56 (.ia 8 (.t 50) (.t 51)),O 57 (.fa 7 (.t 56)),.mk none none (.store 1 (.t 57) (.t 55))]) (.skip))))
 (.seq (.reg [2,4] [O 58 (.mv (.t 6)),O 59 (.fa 2 (.t 2)),.mk none none (.store 1 (.t 59) (.t 58))])
 (.seq (.reg [4] [O 60 (.load (some 3) (.t 2)),.mk none none (.store 3 (.t 4) (.t 60))])
 (.ret))))))))
def cy106:List (Nat×An):=[(2,.cells ⟨some .Typ,[some (.str,.no),some (.str,.no),some ((.lst (.nm .Field)),.no)]⟩),(3,.cells ⟨some .Field,[some (.str,.no),some (.str,.no),some (.bool,.no),some (.bool,.no),some (.bool,.no),some (.bool,.no),some (.bool,.no),some ((.lst .str),.no)]⟩),(4,.cells ⟨some .Typ,[some (.str,.no),some (.str,.no),some ((.lst (.nm .Field)),.no)]⟩),(7,.t (.nm .Typ)),(9,.t .str),(10,.t (.int .i64)),(5,.t (.int .i64)),(11,.t (.int .i64)),(12,.t .bool),(13,.t (.lst (.nm .Field))),(15,.t (.lst (.nm .Field))),(16,.t (.lst (.nm .Field))),(18,.t .str),(20,.t .str),(22,.t .bool),(24,.t .bool),(26,.t .bool),(27,.t (.lst .str)),(29,.t (.lst .str)),(30,.t (.lst .str)),(31,.t (.nm .Field)),(32,.t (.lst (.nm .Field))),(33,.t (.lst (.nm .Field))),(35,.t (.nm .Typ)),(36,.t (.lst (.nm .Field))),(38,.t (.lst (.nm .Field))),(39,.t (.lst (.nm .Field))),(6,.t (.lst (.nm .Field))),(41,.t .bool),(42,.t (.lst (.nm .Field))),(43,.t (.int .i64)),(47,.t (.lst .str)),(48,.t (.int .i64)),(49,.t .bool),(50,.t (.lst (.nm .Field))),(51,.t (.int .i64)),(52,.t (.lst .str)),(54,.t (.lst .str)),(55,.t (.lst .str)),(58,.t (.lst (.nm .Field))),(60,.t (.nm .Typ))]
def c107:CC :=
 .seq (.reg [0] [O 2 (.mv (.c (.bool false)))])
 (.seq (.reg [2] [O 3 (.mv (.t 0)),O 4 (.call 119 [(.t 3)]),O 5 (.mv (.t 4)),.mk (some 6) (some (5,true)) (.mv (.t 0)),.mk (some 7) (some (5,true)) (.lens (.t 6)),.mk (some 8) (some (5,true)) (.bin .leq (.t 7) (.c (.int .i64 8))),O 9 (.pick (.t 5) (.t 8) (.c (.bool false))),O 10 (.mv (.t 9)),.mk (some 11) (some (10,true)) (.mv (.t 0)),.mk (some 12) (some (10,true)) (.idx (.t 11) (.c (.int .i64 0))),.mk (some 13) (some (10,true)) (.bin .neq (.t 12) (.c (.int .u8 95))),O 14 (.pick (.t 10) (.t 13) (.c (.bool false))),O 15 (.mv (.t 14)),.mk (some 16) (some (15,true)) (.mv (.t 0)),.mk (some 17) (some (15,true)) (.call 100 [(.t 16)]),.mk (some 18) (some (15,true)) (.not (.t 17)),O 19 (.pick (.t 15) (.t 18) (.c (.bool false))),O 20 (.mv (.t 19)),.mk (some 21) (some (20,true)) (.mv (.t 0)),.mk (some 22) (some (20,true)) (.bin .neq (.t 21) (.c (.str [112,97,114,116]))),O 23 (.pick (.t 20) (.t 22) (.c (.bool false))),O 24 (.mv (.t 23)),.mk (some 25) (some (24,true)) (.mv (.t 0)),.mk (some 26) (some (24,true)) (.bin .neq (.t 25) (.c (.str [116,121,112,101]))),O 27 (.pick (.t 24) (.t 26) (.c (.bool false))),O 28 (.mv (.t 27)),.mk (some 29) (some (28,true)) (.mv (.t 0)),.mk (some 30) (some (28,true)) (.bin .neq (.t 29) (.c (.str [107,101,121]))),O 31 (.pick (.t 28) (.t 30) (.c (.bool false))),O 32 (.mv (.t 31)),.mk (some 33) (some (32,true)) (.mv (.t 0)),.mk (some 34) (some (32,true)) (.bin .neq (.t 33) (.c (.str [102,97,114]))),O 35 (.pick (.t 32) (.t 34) (.c (.bool false))),O 36 (.mv (.t 35)),.mk (some 37) (some (36,true)) (.mv (.t 0)),.mk (some 38) (some (36,true)) (.bin .neq (.t 37) (.c (.str [104,105,100,100,101,110]))),O 39 (.pick (.t 36) (.t 38) (.c (.bool false))),O 40 (.mv (.t 39)),.mk (some 41) (some (40,true)) (.mv (.t 0)),.mk (some 42) (some (40,true)) (.bin .neq (.t 41) (.c (.str [115,104,97,114,101,100]))),O 43 (.pick (.t 40) (.t 42) (.c (.bool false))),O 44 (.mv (.t 43)),.mk (some 45) (some (44,true)) (.mv (.t 0)),.mk (some 46) (some (44,true)) (.bin .neq (.t 45) (.c (.str [110,101,101,100,115]))),O 47 (.pick (.t 44) (.t 46) (.c (.bool false))),O 2 (.mv (.t 47))])
 (.ret))
def cy107:List (Nat×An):=[(2,.t .bool)]
def c108:CC :=
 .seq (.reg [1,2] [O 2 (.boxi 2 (.t 0)),O 4 (.mv (.c (.int .i64 0)))])
 (.seq (.reg [1,2,5] [O 12 (.fa 1 (.t 2)),O 13 (.load none (.t 12)),O 14 (.mv (.t 1)),O 15 (.ia 3 (.t 13) (.t 14)),O 16 (.load (some 3) (.t 15)),O 5 (.alloc [(.str []),(.str []),.e0]),.mk none none (.store 3 (.t 5) (.t 16))])
 (.frz 5 0 (.seq (.seq (.reg [1,2,5,43] [O 17 (.fa 0 (.t 5)),O 18 (.load none (.t 17)),O 19 (.call 107 [(.t 18)]),O 20 (.not (.t 19)),O 21 (.mv (.t 20)),.mk (some 22) (some (21,false)) (.fa 1 (.t 5)),.mk (some 23) (some (21,false)) (.load none (.t 22)),.mk (some 24) (some (21,false)) (.bin .neq (.t 23) (.c (.str []))),.mk (some 25) (some (21,false)) (.mv (.t 24)),.mk (some 26) (some (25,true)) (.fa 1 (.t 5)),.mk (some 27) (some (25,true)) (.load none (.t 26)),.mk (some 28) (some (25,true)) (.call 107 [(.t 27)]),.mk (some 29) (some (25,true)) (.not (.t 28)),.mk (some 30) (some (21,false)) (.pick (.t 25) (.t 29) (.c (.bool false))),O 31 (.pick (.t 21) (.c (.bool true)) (.t 30)),O 32 (.mv (.t 31)),.mk (some 33) (some (32,false)) (.fa 2 (.t 5)),.mk (some 34) (some (32,false)) (.load none (.t 33)),.mk (some 35) (some (32,false)) (.lenl (.t 34)),.mk (some 36) (some (32,false)) (.bin .eql (.t 35) (.c (.int .i64 0))),O 37 (.pick (.t 32) (.c (.bool true)) (.t 36)),O 38 (.mv (.t 37)),.mk (some 39) (some (38,false)) (.fa 2 (.t 5)),.mk (some 40) (some (38,false)) (.load none (.t 39)),.mk (some 41) (some (38,false)) (.lenl (.t 40)),.mk (some 42) (some (38,false)) (.bin .gtr (.t 41) (.c (.int .i64 8))),O 43 (.pick (.t 38) (.c (.bool true)) (.t 42))])
 (.cond (.t 43) (.seq (.reg [4] [O 4 (.mv (.c (.int .i64 1)))])
 (.ret)) (.skip)))
 (.seq (.seq (.reg [1,2,5,6] [O 6 (.mv (.c (.int .i64 0)))])
 (.block 0 (.lp true 0 [6] [1,2,5] (.seq (.seq (.reg [1,2,5,6,48] [O 44 (.mv (.t 6)),O 45 (.fa 2 (.t 5)),O 46 (.load none (.t 45)),O 47 (.lenl (.t 46)),O 48 (.bin .lss (.t 44) (.t 47))])
 (.cond (.t 48) (.skip) (.exit 0)))
 (.seq (.block 1 (.seq (.reg [1,2,5,6,7] [O 51 (.fa 2 (.t 5)),O 52 (.load none (.t 51)),O 53 (.mv (.t 6)),O 54 (.ia 8 (.t 52) (.t 53)),O 55 (.load (some 8) (.t 54)),O 7 (.alloc [(.str []),(.str []),(.bool false),(.bool false),(.bool false),(.bool false),(.bool false),.e0]),.mk none none (.store 8 (.t 7) (.t 55))])
 (.frz 7 0 (.seq (.seq (.reg [1,2,5,6,7,71] [O 56 (.fa 0 (.t 7)),O 57 (.load none (.t 56)),O 58 (.call 107 [(.t 57)]),O 59 (.not (.t 58)),O 60 (.mv (.t 59)),.mk (some 61) (some (60,false)) (.fa 1 (.t 7)),.mk (some 62) (some (60,false)) (.load none (.t 61)),.mk (some 63) (some (60,false)) (.call 100 [(.t 62)]),.mk (some 64) (some (60,false)) (.not (.t 63)),.mk (some 65) (some (60,false)) (.mv (.t 64)),.mk (some 66) (some (65,true)) (.fa 1 (.t 7)),.mk (some 67) (some (65,true)) (.load none (.t 66)),.mk (some 68) (some (65,true)) (.call 107 [(.t 67)]),.mk (some 69) (some (65,true)) (.not (.t 68)),.mk (some 70) (some (60,false)) (.pick (.t 65) (.t 69) (.c (.bool false))),O 71 (.pick (.t 60) (.c (.bool true)) (.t 70))])
 (.cond (.t 71) (.seq (.reg [4] [O 4 (.mv (.c (.int .i64 1)))])
 (.ret)) (.skip)))
 (.seq (.reg [1,2,5,6,7,8] [O 8 (.mv (.c (.int .i64 0)))])
 (.block 2 (.lp true 2 [8] [1,2,5,6,7] (.seq (.seq (.reg [1,2,5,6,7,8,76] [O 72 (.mv (.t 8)),O 73 (.fa 7 (.t 7)),O 74 (.load none (.t 73)),O 75 (.lenl (.t 74)),O 76 (.bin .lss (.t 72) (.t 75))])
 (.cond (.t 76) (.skip) (.exit 2)))
 (.seq (.block 3 (.seq (.reg [1,2,5,6,7,8,85] [O 79 (.fa 7 (.t 7)),O 80 (.load none (.t 79)),O 81 (.mv (.t 8)),O 82 (.ia 1 (.t 80) (.t 81)),O 83 (.load none (.t 82)),O 84 (.call 107 [(.t 83)]),O 85 (.not (.t 84))])
 (.cond (.t 85) (.seq (.reg [4] [O 4 (.mv (.c (.int .i64 1)))])
 (.ret)) (.skip))))
 (.reg [1,2,5,6,7,8] [O 77 (.mv (.t 8)),O 78 (.bin .add (.t 77) (.c (.int .i64 1))),O 8 (.mv (.t 78))]))))))))))
 (.reg [1,2,5,6] [O 49 (.mv (.t 6)),O 50 (.bin .add (.t 49) (.c (.int .i64 1))),O 6 (.mv (.t 50))]))))))
 (.seq (.seq (.reg [2,5,91] [O 86 (.load (some 2) (.t 2)),O 87 (.fa 0 (.t 5)),O 88 (.load none (.t 87)),O 89 (.call 98 [(.t 86),(.t 88)]),O 90 (.mv (.t 1)),O 91 (.bin .neq (.t 89) (.t 90))])
 (.cond (.t 91) (.seq (.reg [4] [O 4 (.mv (.c (.int .i64 2)))])
 (.ret)) (.skip)))
 (.seq (.seq (.reg [2,5,9] [O 9 (.mv (.c (.int .i64 0)))])
 (.block 4 (.lp true 4 [9] [2,5] (.seq (.seq (.reg [2,5,9,96] [O 92 (.mv (.t 9)),O 93 (.fa 2 (.t 5)),O 94 (.load none (.t 93)),O 95 (.lenl (.t 94)),O 96 (.bin .lss (.t 92) (.t 95))])
 (.cond (.t 96) (.skip) (.exit 4)))
 (.seq (.block 5 (.seq (.regd [2,5,9,108] [0,1,2,3,4,5,6,7,8,9] [0,0,2,0,14,30,62,127,0,511] [0,0,0,0,0,0,0,4,0,0] [O 99 (.load (some 3) (.t 5)),O 100 (.fa 2 (.t 5)),O 101 (.load none (.t 100)),O 102 (.mv (.t 9)),O 103 (.ia 8 (.t 101) (.t 102)),O 104 (.fa 0 (.t 103)),O 105 (.load none (.t 104)),O 106 (.call 116 [(.t 99),(.t 105)]),O 107 (.mv (.t 9)),O 108 (.bin .neq (.t 106) (.t 107))])
 (.cond (.t 108) (.seq (.reg [4] [O 4 (.mv (.c (.int .i64 2)))])
 (.ret)) (.skip))))
 (.reg [2,5,9] [O 97 (.mv (.t 9)),O 98 (.bin .add (.t 97) (.c (.int .i64 1))),O 9 (.mv (.t 98))]))))))
 (.seq (.seq (.reg [2,5,10] [O 10 (.mv (.c (.int .i64 0)))])
 (.block 6 (.lp true 6 [10] [2,5] (.seq (.seq (.reg [2,5,10,113] [O 109 (.mv (.t 10)),O 110 (.fa 2 (.t 5)),O 111 (.load none (.t 110)),O 112 (.lenl (.t 111)),O 113 (.bin .lss (.t 109) (.t 112))])
 (.cond (.t 113) (.skip) (.exit 6)))
 (.seq (.block 7 (.seq (.regd [2,5,10,134] [0,1,2,3,4,5,6,7,8,9,10,11,12,13,14,15,16,17,18] [0,1,0,7,15,31,63,127,255,511,511,1535,511,7679,15871,32255,65535,131071,262143] [0,0,0,0,0,0,4,0,0,0,0,0,0,0,0,0,4,0,0] [O 116 (.fa 2 (.t 5)),O 117 (.load none (.t 116)),O 118 (.mv (.t 10)),O 119 (.ia 8 (.t 117) (.t 118)),O 120 (.fa 1 (.t 119)),O 121 (.load none (.t 120)),O 122 (.call 100 [(.t 121)]),O 123 (.not (.t 122)),O 124 (.mv (.t 123)),.mk (some 125) (some (124,true)) (.load (some 2) (.t 2)),.mk (some 126) (some (124,true)) (.fa 2 (.t 5)),.mk (some 127) (some (124,true)) (.load none (.t 126)),.mk (some 128) (some (124,true)) (.mv (.t 10)),.mk (some 129) (some (124,true)) (.ia 8 (.t 127) (.t 128)),.mk (some 130) (some (124,true)) (.fa 1 (.t 129)),.mk (some 131) (some (124,true)) (.load none (.t 130)),.mk (some 132) (some (124,true)) (.call 98 [(.t 125),(.t 131)]),.mk (some 133) (some (124,true)) (.bin .lss (.t 132) (.c (.int .i64 0))),O 134 (.pick (.t 124) (.t 133) (.c (.bool false)))])
 (.cond (.t 134) (.seq (.reg [4] [O 4 (.mv (.c (.int .i64 3)))])
 (.ret)) (.skip))))
 (.reg [2,5,10] [O 114 (.mv (.t 10)),O 115 (.bin .add (.t 114) (.c (.int .i64 1))),O 10 (.mv (.t 115))]))))))
 (.seq (.seq (.reg [5,137] [O 135 (.load (some 3) (.t 5)),O 136 (.call 120 [(.t 135)]),O 137 (.not (.t 136))])
 (.cond (.t 137) (.seq (.reg [4] [O 4 (.mv (.c (.int .i64 4)))])
 (.ret)) (.skip)))
 (.seq (.seq (.reg [5,11] [O 11 (.mv (.c (.int .i64 0)))])
 (.block 8 (.lp true 8 [11] [5] (.seq (.seq (.reg [5,11,142] [O 138 (.mv (.t 11)),O 139 (.fa 2 (.t 5)),O 140 (.load none (.t 139)),O 141 (.lenl (.t 140)),O 142 (.bin .lss (.t 138) (.t 141))])
 (.cond (.t 142) (.skip) (.exit 8)))
 (.seq (.block 9 (.seq (.regd [5,11,168] [0,1,2,3,4,5,6,7,8,9,10,11,12,13,14,15,16,17,18,19,20,21,22,23] [0,0,2,0,14,30,63,127,255,511,1023,511,4095,8191,16383,32767,65535,131071,65535,524287,1048575,2097151,4194303,8388607] [0,0,0,0,0,0,4,0,0,0,0,0,0,0,0,0,0,0,0,0,0,0,0,0] [O 145 (.load (some 3) (.t 5)),O 146 (.fa 2 (.t 5)),O 147 (.load none (.t 146)),O 148 (.mv (.t 11)),O 149 (.ia 8 (.t 147) (.t 148)),O 150 (.load (some 8) (.t 149)),O 151 (.call 121 [(.t 145),(.t 150)]),O 152 (.not (.t 151)),O 153 (.mv (.t 152)),.mk (some 154) (some (153,false)) (.fa 2 (.t 5)),.mk (some 155) (some (153,false)) (.load none (.t 154)),.mk (some 156) (some (153,false)) (.mv (.t 11)),.mk (some 157) (some (153,false)) (.ia 8 (.t 155) (.t 156)),.mk (some 158) (some (153,false)) (.fa 4 (.t 157)),.mk (some 159) (some (153,false)) (.load none (.t 158)),.mk (some 160) (some (153,false)) (.mv (.t 159)),.mk (some 161) (some (160,true)) (.fa 2 (.t 5)),.mk (some 162) (some (160,true)) (.load none (.t 161)),.mk (some 163) (some (160,true)) (.mv (.t 11)),.mk (some 164) (some (160,true)) (.ia 8 (.t 162) (.t 163)),.mk (some 165) (some (160,true)) (.fa 6 (.t 164)),.mk (some 166) (some (160,true)) (.load none (.t 165)),.mk (some 167) (some (153,false)) (.pick (.t 160) (.t 166) (.c (.bool false))),O 168 (.pick (.t 153) (.c (.bool true)) (.t 167))])
 (.cond (.t 168) (.seq (.reg [4] [O 4 (.mv (.c (.int .i64 5)))])
 (.ret)) (.skip))))
 (.reg [5,11] [O 143 (.mv (.t 11)),O 144 (.bin .add (.t 143) (.c (.int .i64 1))),O 11 (.mv (.t 144))]))))))
 (.seq (.reg [4] [O 4 (.mv (.c (.int .i64 0)))])
 (.ret)))))))))))
def cy108:List (Nat×An):=[(2,.cells ⟨some .Part,[some (.str,.no),some ((.lst (.nm .Typ)),.no)]⟩),(4,.t (.int .i64)),(16,.t (.nm .Typ)),(5,.cells ⟨some .Typ,[some (.str,.no),some (.str,.no),some ((.lst (.nm .Field)),.no)]⟩),(43,.t .bool),(6,.t (.int .i64)),(55,.t (.nm .Field)),(7,.cells ⟨some .Field,[some (.str,.no),some (.str,.no),some (.bool,.no),some (.bool,.no),some (.bool,.no),some (.bool,.no),some (.bool,.no),some ((.lst .str),.no)]⟩),(71,.t .bool),(8,.t (.int .i64)),(86,.t (.nm .Part)),(9,.t (.int .i64)),(99,.t (.nm .Typ)),(10,.t (.int .i64)),(125,.t (.nm .Part)),(134,.t .bool),(135,.t (.nm .Typ)),(11,.t (.int .i64)),(145,.t (.nm .Typ)),(150,.t (.nm .Field)),(168,.t .bool)]
def c109:CC :=
 .seq (.reg [1] [O 1 (.boxi 2 (.t 0)),O 2 (.mv (.c (.str [])))])
 (.seq (.reg [1,3] [O 7 (.fa 0 (.t 1)),O 8 (.load none (.t 7)),O 9 (.bin .add (.c (.str [112,97,114,116,32])) (.t 8)),O 10 (.bin .add (.t 9) (.c (.str [10]))),O 3 (.mv (.t 10))])
 (.seq (.seq (.reg [1,3,4] [O 4 (.mv (.c (.int .i64 0)))])
 (.block 0 (.lp false 0 [3,4] [1] (.seq (.seq (.reg [1,3,4,15] [O 11 (.mv (.t 4)),O 12 (.fa 1 (.t 1)),O 13 (.load none (.t 12)),O 14 (.lenl (.t 13)),O 15 (.bin .lss (.t 11) (.t 14))])
 (.cond (.t 15) (.skip) (.exit 0)))
 (.seq (.block 1 (.seq (.reg [1,3,4,5] [O 18 (.fa 1 (.t 1)),O 19 (.load none (.t 18)),O 20 (.mv (.t 4)),O 21 (.ia 3 (.t 19) (.t 20)),O 22 (.load (some 3) (.t 21)),O 5 (.alloc [(.str []),(.str []),.e0]),.mk none none (.store 3 (.t 5) (.t 22))])
 (.frz 5 0 (.seq (.reg [1,3,4,5] [O 23 (.mv (.t 3)),O 24 (.bin .add (.t 23) (.c (.str [116,121,112,101,32]))),O 25 (.fa 0 (.t 5)),O 26 (.load none (.t 25)),O 27 (.bin .add (.t 24) (.t 26)),O 3 (.mv (.t 27))])
 (.seq (.seq (.reg [1,3,4,5,30] [O 28 (.fa 1 (.t 5)),O 29 (.load none (.t 28)),O 30 (.bin .neq (.t 29) (.c (.str [])))])
 (.jn false [3] [1,4,5] (.cond (.t 30) (.reg [1,3,4,5] [O 31 (.mv (.t 3)),O 32 (.bin .add (.t 31) (.c (.str [32,107,101,121,32]))),O 33 (.fa 1 (.t 5)),O 34 (.load none (.t 33)),O 35 (.bin .add (.t 32) (.t 34)),O 3 (.mv (.t 35))]) (.skip))))
 (.seq (.reg [1,3,4,5] [O 36 (.mv (.t 3)),O 37 (.bin .add (.t 36) (.c (.str [10]))),O 3 (.mv (.t 37))])
 (.seq (.reg [1,3,4,5,6] [O 6 (.mv (.c (.int .i64 0)))])
 (.block 2 (.lp false 2 [3,6] [1,4,5] (.seq (.seq (.reg [1,3,4,5,6,42] [O 38 (.mv (.t 6)),O 39 (.fa 2 (.t 5)),O 40 (.load none (.t 39)),O 41 (.lenl (.t 40)),O 42 (.bin .lss (.t 38) (.t 41))])
 (.cond (.t 42) (.skip) (.exit 2)))
 (.seq (.block 3 (.reg [1,3,4,5,6] [O 45 (.mv (.t 3)),O 46 (.fa 2 (.t 5)),O 47 (.load none (.t 46)),O 48 (.mv (.t 6)),O 49 (.ia 8 (.t 47) (.t 48)),O 50 (.load (some 8) (.t 49)),O 51 (.call 122 [(.t 50)]),O 52 (.bin .add (.t 45) (.t 51)),O 3 (.mv (.t 52))]))
 (.reg [1,3,4,5,6] [O 43 (.mv (.t 6)),O 44 (.bin .add (.t 43) (.c (.int .i64 1))),O 6 (.mv (.t 44))]))))))))))))
 (.reg [1,3,4] [O 16 (.mv (.t 4)),O 17 (.bin .add (.t 16) (.c (.int .i64 1))),O 4 (.mv (.t 17))]))))))
 (.seq (.reg [2] [O 53 (.mv (.t 3)),O 2 (.mv (.t 53))])
 (.ret))))
def cy109:List (Nat×An):=[(1,.cells ⟨some .Part,[some (.str,.no),some ((.lst (.nm .Typ)),.no)]⟩),(2,.t .str),(3,.t .str),(4,.t (.int .i64)),(22,.t (.nm .Typ)),(5,.cells ⟨some .Typ,[some (.str,.no),some (.str,.no),some ((.lst (.nm .Field)),.no)]⟩),(6,.t (.int .i64)),(50,.t (.nm .Field))]
def c110:CC :=
 .seq (.reg [1,2,3,6] [O 3 (.boxi 2 (.t 0)),O 6 (.alloc [(.str []),(.str []),(.bool false),(.bool false),(.bool false),(.bool false),(.bool false),.e0]),O 7 (.mv (.c (.bool false)))])
 (.seq (.reg [2,3,6,8] [O 10 (.load (some 2) (.t 3)),O 11 (.mv (.t 1)),O 12 (.call 98 [(.t 10),(.t 11)]),O 8 (.mv (.t 12))])
 (.seq (.seq (.reg [2,3,6,8,14] [O 13 (.mv (.t 8)),O 14 (.bin .lss (.t 13) (.c (.int .i64 0)))])
 (.cond (.t 14) (.seq (.reg [6,7] [O 15 (.build [(.str []),(.str []),(.bool false),(.bool false),(.bool false),(.bool false),(.bool false),.e0] []),.mk none none (.store 8 (.t 6) (.t 15)),O 7 (.mv (.c (.bool false)))])
 (.ret)) (.skip)))
 (.seq (.reg [3,6,8,9] [O 16 (.fa 1 (.t 3)),O 17 (.load none (.t 16)),O 18 (.mv (.t 8)),O 19 (.ia 3 (.t 17) (.t 18)),O 20 (.load (some 3) (.t 19)),O 21 (.mv (.t 2)),O 22 (.call 116 [(.t 20),(.t 21)]),O 9 (.mv (.t 22))])
 (.seq (.seq (.reg [3,6,8,9,24] [O 23 (.mv (.t 9)),O 24 (.bin .lss (.t 23) (.c (.int .i64 0)))])
 (.cond (.t 24) (.seq (.reg [6,7] [O 25 (.build [(.str []),(.str []),(.bool false),(.bool false),(.bool false),(.bool false),(.bool false),.e0] []),.mk none none (.store 8 (.t 6) (.t 25)),O 7 (.mv (.c (.bool false)))])
 (.ret)) (.skip)))
 (.seq (.reg [6,7] [O 26 (.fa 1 (.t 3)),O 27 (.load none (.t 26)),O 28 (.mv (.t 8)),O 29 (.ia 3 (.t 27) (.t 28)),O 30 (.fa 2 (.t 29)),O 31 (.load none (.t 30)),O 32 (.mv (.t 9)),O 33 (.ia 8 (.t 31) (.t 32)),O 34 (.load (some 8) (.t 33)),.mk none none (.store 8 (.t 6) (.t 34)),O 7 (.mv (.c (.bool true)))])
 (.ret))))))
def cy110:List (Nat×An):=[(3,.cells ⟨some .Part,[some (.str,.no),some ((.lst (.nm .Typ)),.no)]⟩),(6,.cells ⟨some .Field,[some (.str,.no),some (.str,.no),some (.bool,.no),some (.bool,.no),some (.bool,.no),some (.bool,.no),some (.bool,.no),some ((.lst .str),.no)]⟩),(7,.t .bool),(10,.t (.nm .Part)),(15,.t (.nm .Field)),(20,.t (.nm .Typ)),(25,.t (.nm .Field)),(34,.t (.nm .Field))]
def c111:CC :=
 .seq (.reg [1,2] [O 2 (.boxi 2 (.t 0)),O 4 (.mv (.c (.bool false)))])
 (.seq (.reg [2,5] [O 6 (.load (some 2) (.t 2)),O 7 (.mv (.t 1)),O 8 (.call 98 [(.t 6),(.t 7)]),O 5 (.mv (.t 8))])
 (.seq (.reg [4] [O 9 (.mv (.t 5)),O 10 (.bin .geq (.t 9) (.c (.int .i64 0))),O 11 (.mv (.t 10)),.mk (some 12) (some (11,true)) (.fa 1 (.t 2)),.mk (some 13) (some (11,true)) (.load none (.t 12)),.mk (some 14) (some (11,true)) (.mv (.t 5)),.mk (some 15) (some (11,true)) (.ia 3 (.t 13) (.t 14)),.mk (some 16) (some (11,true)) (.fa 1 (.t 15)),.mk (some 17) (some (11,true)) (.load none (.t 16)),.mk (some 18) (some (11,true)) (.bin .neq (.t 17) (.c (.str []))),O 19 (.pick (.t 11) (.t 18) (.c (.bool false))),O 4 (.mv (.t 19))])
 (.ret)))
def cy111:List (Nat×An):=[(2,.cells ⟨some .Part,[some (.str,.no),some ((.lst (.nm .Typ)),.no)]⟩),(4,.t .bool),(6,.t (.nm .Part))]
def c112:CC :=
 .seq (.reg [0,1,2,3] [O 8 (.mv (.c (.int .i64 0)))])
 (.seq (.seq (.reg [0,1,2,3,23] [O 13 (.mv (.t 2)),O 14 (.bin .neq (.t 13) (.c (.str [113,117,101,114,121]))),O 15 (.mv (.t 14)),.mk (some 16) (some (15,true)) (.mv (.t 0)),.mk (some 17) (some (15,true)) (.mv (.t 1)),.mk (some 18) (some (15,true)) (.ia 2 (.t 16) (.t 17)),.mk (some 19) (some (15,true)) (.load (some 2) (.t 18)),.mk (some 20) (some (15,true)) (.mv (.t 2)),.mk (some 21) (some (15,true)) (.mv (.t 3)),.mk (some 22) (some (15,true)) (.call 113 [(.t 19),(.t 20),(.t 21)]),O 23 (.pick (.t 15) (.t 22) (.c (.bool false)))])
 (.cond (.t 23) (.seq (.reg [8] [O 24 (.mv (.t 1)),O 8 (.mv (.t 24))])
 (.ret)) (.skip)))
 (.seq (.reg [0,1,2,3,9] [O 25 (.mv (.t 0)),O 26 (.mv (.t 2)),O 27 (.mv (.t 3)),O 28 (.call 90 [(.t 25),(.t 26),(.t 27)]),O 9 (.mv (.t 28))])
 (.seq (.seq (.reg [0,1,2,3,9,34] [O 29 (.mv (.t 2)),O 30 (.bin .eql (.t 29) (.c (.str [113,117,101,114,121]))),O 31 (.mv (.t 30)),.mk (some 32) (some (31,false)) (.mv (.t 9)),.mk (some 33) (some (31,false)) (.bin .lss (.t 32) (.c (.int .i64 0))),O 34 (.pick (.t 31) (.c (.bool true)) (.t 33))])
 (.cond (.t 34) (.seq (.reg [8] [O 35 (.mv (.t 9)),O 8 (.mv (.t 35))])
 (.ret)) (.skip)))
 (.seq (.reg [0,1,2,9,10] [O 37 (.mv (.t 0)),O 38 (.mv (.t 9)),O 39 (.ia 2 (.t 37) (.t 38)),O 40 (.load (some 2) (.t 39)),O 41 (.mv (.t 2)),O 42 (.mv (.t 3)),O 43 (.call 110 [(.t 40),(.t 41),(.t 42)]),O 36 (.mv (.t 43)),O 44 (.ext (.t 36) 0),O 45 (.ext (.t 36) 1),O 10 (.alloc [(.str []),(.str []),(.bool false),(.bool false),(.bool false),(.bool false),(.bool false),.e0]),.mk none none (.store 8 (.t 10) (.t 44)),O 11 (.mv (.t 45))])
 (.frz 10 0 (.seq (.seq (.reg [0,1,2,9,10,52] [O 46 (.mv (.t 0)),O 47 (.mv (.t 1)),O 48 (.ia 2 (.t 46) (.t 47)),O 49 (.load (some 2) (.t 48)),O 50 (.mv (.t 2)),O 51 (.call 111 [(.t 49),(.t 50)]),O 52 (.not (.t 51))])
 (.cond (.t 52) (.seq (.reg [8] [O 8 (.mv (.c (.int .i64 (-1))))])
 (.ret)) (.skip)))
 (.seq (.seq (.reg [0,1,2,9,10,12] [O 12 (.mv (.c (.int .i64 0)))])
 (.block 0 (.lp true 0 [12] [0,1,2,9,10] (.seq (.seq (.reg [0,1,2,9,10,12,57] [O 53 (.mv (.t 12)),O 54 (.fa 7 (.t 10)),O 55 (.load none (.t 54)),O 56 (.lenl (.t 55)),O 57 (.bin .lss (.t 53) (.t 56))])
 (.cond (.t 57) (.skip) (.exit 0)))
 (.seq (.block 1 (.seq (.regd [0,1,2,9,10,12,82] [0,1,2,3,4,5,6,7,8,9,10,11,12,13,14,15,16,17,18,19,20,21,22] [0,0,3,7,0,0,32,0,224,480,1023,2047,4095,8191,8191,8191,40959,8191,237567,499711,1048575,2097151,4194303] [0,0,0,1,0,0,0,0,0,0,4,0,0,0,0,0,0,0,0,0,4,0,0] [O 60 (.mv (.t 0)),O 61 (.mv (.t 1)),O 62 (.ia 2 (.t 60) (.t 61)),O 63 (.load (some 2) (.t 62)),O 64 (.mv (.t 2)),O 65 (.fa 7 (.t 10)),O 66 (.load none (.t 65)),O 67 (.mv (.t 12)),O 68 (.ia 1 (.t 66) (.t 67)),O 69 (.load none (.t 68)),O 70 (.call 113 [(.t 63),(.t 64),(.t 69)]),O 71 (.not (.t 70)),O 72 (.mv (.t 71)),.mk (some 73) (some (72,true)) (.mv (.t 0)),.mk (some 74) (some (72,true)) (.mv (.t 2)),.mk (some 75) (some (72,true)) (.fa 7 (.t 10)),.mk (some 76) (some (72,true)) (.load none (.t 75)),.mk (some 77) (some (72,true)) (.mv (.t 12)),.mk (some 78) (some (72,true)) (.ia 1 (.t 76) (.t 77)),.mk (some 79) (some (72,true)) (.load none (.t 78)),.mk (some 80) (some (72,true)) (.call 90 [(.t 73),(.t 74),(.t 79)]),.mk (some 81) (some (72,true)) (.bin .lss (.t 80) (.c (.int .i64 0))),O 82 (.pick (.t 72) (.t 81) (.c (.bool false)))])
 (.cond (.t 82) (.seq (.reg [8] [O 8 (.mv (.c (.int .i64 (-1))))])
 (.ret)) (.skip))))
 (.reg [0,1,2,9,10,12] [O 58 (.mv (.t 12)),O 59 (.bin .add (.t 58) (.c (.int .i64 1))),O 12 (.mv (.t 59))]))))))
 (.seq (.reg [8] [O 83 (.mv (.t 9)),O 8 (.mv (.t 83))])
 (.ret)))))))))
def cy112:List (Nat×An):=[(8,.t (.int .i64)),(19,.t (.nm .Part)),(23,.t .bool),(9,.t (.int .i64)),(34,.t .bool),(40,.t (.nm .Part)),(10,.cells ⟨some .Field,[some (.str,.no),some (.str,.no),some (.bool,.no),some (.bool,.no),some (.bool,.no),some (.bool,.no),some (.bool,.no),some ((.lst .str),.no)]⟩),(49,.t (.nm .Part)),(12,.t (.int .i64)),(63,.t (.nm .Part)),(82,.t .bool)]
def c113:CC :=
 .seq (.reg [1,2,3] [O 3 (.boxi 2 (.t 0)),O 6 (.mv (.c (.bool false)))])
 (.seq (.reg [7,8] [O 10 (.load (some 2) (.t 3)),O 11 (.mv (.t 1)),O 12 (.mv (.t 2)),O 13 (.call 110 [(.t 10),(.t 11),(.t 12)]),O 9 (.mv (.t 13)),O 14 (.ext (.t 9) 0),O 15 (.ext (.t 9) 1),O 7 (.alloc [(.str []),(.str []),(.bool false),(.bool false),(.bool false),(.bool false),(.bool false),.e0]),.mk none none (.store 8 (.t 7) (.t 14)),O 8 (.mv (.t 15))])
 (.frz 7 0 (.seq (.reg [6] [O 16 (.mv (.t 8)),O 17 (.mv (.t 16)),.mk (some 18) (some (17,true)) (.fa 4 (.t 7)),.mk (some 19) (some (17,true)) (.load none (.t 18)),.mk (some 20) (some (17,true)) (.not (.t 19)),O 21 (.pick (.t 17) (.t 20) (.c (.bool false))),O 22 (.mv (.t 21)),.mk (some 23) (some (22,true)) (.fa 7 (.t 7)),.mk (some 24) (some (22,true)) (.load none (.t 23)),.mk (some 25) (some (22,true)) (.lenl (.t 24)),.mk (some 26) (some (22,true)) (.bin .eql (.t 25) (.c (.int .i64 0))),O 27 (.pick (.t 22) (.t 26) (.c (.bool false))),O 6 (.mv (.t 27))])
 (.ret))))
def cy113:List (Nat×An):=[(3,.cells ⟨some .Part,[some (.str,.no),some ((.lst (.nm .Typ)),.no)]⟩),(6,.t .bool),(10,.t (.nm .Part)),(7,.cells ⟨some .Field,[some (.str,.no),some (.str,.no),some (.bool,.no),some (.bool,.no),some (.bool,.no),some (.bool,.no),some (.bool,.no),some ((.lst .str),.no)]⟩)]
def c114:CC :=
 .seq (.reg [0,1,2,3,4,5,6] [O 14 (.mv (.c (.sl 5 [])))])
 (.seq (.seq (.reg [0,1,2,3,4,5,6,29] [O 28 (.mv (.t 3)),O 29 (.bin .eql (.t 28) (.c (.str [113,117,101,114,121])))])
 (.cond (.t 29) (.seq (.reg [0,3,4,5,6,15] [O 30 (.mv (.t 0)),O 31 (.mv (.t 2)),O 32 (.mv (.t 5)),O 33 (.mv (.t 3)),O 34 (.bsl 1 []),O 35 (.call 91 [(.t 30),(.t 31),(.t 32),(.t 33),(.t 34)]),O 15 (.mv (.t 35))])
 (.seq (.reg [0,6,15,16] [O 36 (.mv (.t 0)),O 37 (.mv (.t 15)),O 38 (.mv (.t 3)),O 39 (.mv (.t 4)),O 40 (.mv (.t 5)),O 41 (.call 92 [(.t 36),(.t 37),(.t 38),(.t 39),(.t 40)]),O 16 (.mv (.t 41))])
 (.seq (.reg [6] [O 42 (.mv (.t 0)),O 43 (.nilc (.t 42)),O 44 (.fa 3 (.t 43)),O 45 (.load none (.t 44)),O 46 (.mv (.t 15)),O 47 (.mv (.t 16)),O 48 (.ia 6 (.t 45) (.t 46)),O 49 (.fa 3 (.t 48)),.mk none none (.store 1 (.t 49) (.t 47))])
 (.seq (.reg [14] [O 50 (.mv (.t 6)),O 14 (.mv (.t 50))])
 (.ret))))) (.skip)))
 (.seq (.regd [0,1,2,3,4,5,6] [0,1,2,3,4,5,6,7,8,9,10,11,12,13,14,15,16,17] [0,0,2,6,14,30,0,64,192,448,0,1984,4094,8190,16382,32766,65535,131071] [0,0,0,0,0,1,0,0,0,1,0,2,0,0,1,0,2,0] [O 51 (.mv (.t 6)),O 52 (.mv (.t 0)),O 53 (.nilc (.t 52)),O 54 (.fa 1 (.t 53)),O 55 (.fa 1 (.t 54)),O 56 (.load none (.t 55)),O 57 (.mv (.t 0)),O 58 (.nilc (.t 57)),O 59 (.fa 1 (.t 58)),O 60 (.load (some 2) (.t 59)),O 61 (.mv (.t 3)),O 62 (.call 98 [(.t 60),(.t 61)]),O 63 (.ia 3 (.t 56) (.t 62)),O 64 (.fa 1 (.t 63)),O 65 (.load none (.t 64)),O 66 (.build [(.str []),(.str []),(.bool false),(.int .i64 0),.sl 5 []] [(0,1,(.c (.str [95,105,100]))),(1,1,(.t 65))]),O 67 (.call 123 [(.t 51),(.t 66)]),O 6 (.mv (.t 67))])
 (.seq (.reg [0,1,2,3,4,5,6,17] [O 68 (.mv (.t 0)),O 69 (.nilc (.t 68)),O 70 (.fa 3 (.t 69)),O 71 (.load none (.t 70)),O 72 (.mv (.t 1)),O 73 (.ia 6 (.t 71) (.t 72)),O 74 (.fa 0 (.t 73)),O 75 (.load none (.t 74)),O 17 (.mv (.t 75))])
 (.seq (.reg [0,1,2,3,4,5,6,17,18] [O 76 (.mv (.t 1)),O 77 (.bslm 1 [(.t 76)]),O 18 (.mv (.t 77))])
 (.seq (.reg [0,1,2,3,4,5,6,17,18,19] [O 78 (.bsl 1 []),O 19 (.mv (.t 78))])
 (.seq (.seq (.reg [0,1,2,3,4,5,6,17,18,19,20] [O 20 (.mv (.c (.int .i64 0)))])
 (.block 0 (.lp false 0 [19,20] [0,1,2,3,4,5,6,17,18] (.seq (.seq (.reg [0,1,2,3,4,5,6,17,18,19,20,82] [O 79 (.mv (.t 20)),O 80 (.mv (.t 4)),O 81 (.lenl (.t 80)),O 82 (.bin .lss (.t 79) (.t 81))])
 (.cond (.t 82) (.skip) (.exit 0)))
 (.seq (.block 1 (.seq (.regd [0,1,2,3,4,5,6,17,18,19,20,21] [0,1,2,3,4,5,6,7,8,9,10,11,12,13,14,15,16,17,18,19] [0,1,3,7,0,31,63,0,0,0,768,1792,3840,8191,16383,32767,32767,0,196607,524287] [0,0,0,1,0,0,1,0,0,0,0,0,1,4,0,0,0,4,4,0] [O 86 (.mv (.t 0)),O 87 (.nilc (.t 86)),O 88 (.fa 0 (.t 87)),O 89 (.load none (.t 88)),O 90 (.mv (.t 2)),O 91 (.ia 2 (.t 89) (.t 90)),O 92 (.load (some 2) (.t 91)),O 93 (.mv (.t 3)),O 94 (.mv (.t 4)),O 95 (.mv (.t 20)),O 96 (.ia 5 (.t 94) (.t 95)),O 97 (.fa 1 (.t 96)),O 98 (.load none (.t 97)),O 99 (.call 110 [(.t 92),(.t 93),(.t 98)]),O 85 (.mv (.t 99)),O 100 (.ext (.t 85) 0),O 101 (.ext (.t 85) 1),O 21 (.alloc [(.str []),(.str []),(.bool false),(.bool false),(.bool false),(.bool false),(.bool false),.e0]),.mk none none (.store 8 (.t 21) (.t 100)),O 22 (.mv (.t 101))])
 (.frz 21 0 (.seq (.reg [0,1,2,3,4,5,6,17,18,19,20,21,23] [O 23 (.mv (.c (.int .i64 0)))])
 (.block 2 (.lp false 2 [19,23] [0,1,2,3,4,5,6,17,18,20,21] (.seq (.seq (.reg [0,1,2,3,4,5,6,17,18,19,20,21,23,106] [O 102 (.mv (.t 23)),O 103 (.fa 7 (.t 21)),O 104 (.load none (.t 103)),O 105 (.lenl (.t 104)),O 106 (.bin .lss (.t 102) (.t 105))])
 (.cond (.t 106) (.skip) (.exit 2)))
 (.seq (.block 3 (.reg [0,1,2,3,4,5,6,17,18,19,20,21,23] [O 109 (.mv (.t 19)),O 110 (.fa 7 (.t 21)),O 111 (.load none (.t 110)),O 112 (.mv (.t 23)),O 113 (.ia 1 (.t 111) (.t 112)),O 114 (.load none (.t 113)),O 115 (.call 124 [(.t 109),(.t 114)]),O 19 (.mv (.t 115))]))
 (.reg [0,1,2,3,4,5,6,17,18,19,20,21,23] [O 107 (.mv (.t 23)),O 108 (.bin .add (.t 107) (.c (.int .i64 1))),O 23 (.mv (.t 108))])))))))))
 (.reg [0,1,2,3,4,5,6,17,18,19,20] [O 83 (.mv (.t 20)),O 84 (.bin .add (.t 83) (.c (.int .i64 1))),O 20 (.mv (.t 84))]))))))
 (.seq (.seq (.reg [0,1,2,3,4,5,6,17,18,19,24] [O 24 (.mv (.c (.int .i64 0)))])
 (.block 4 (.lp false 4 [6,18,24] [0,1,2,3,4,5,17,19] (.seq (.seq (.reg [0,1,2,3,4,5,6,17,18,19,24,119] [O 116 (.mv (.t 24)),O 117 (.mv (.t 19)),O 118 (.lenl (.t 117)),O 119 (.bin .lss (.t 116) (.t 118))])
 (.cond (.t 119) (.skip) (.exit 4)))
 (.seq (.block 5 (.seq (.seq (.regd [0,1,2,3,4,5,6,17,18,19,24,134] [0,1,2,3,4,5,6,7,8,9,10,11,12] [0,1,3,7,0,31,63,0,0,0,768,1792,4095] [0,0,0,1,0,0,1,0,0,0,0,1,4] [O 122 (.mv (.t 0)),O 123 (.nilc (.t 122)),O 124 (.fa 0 (.t 123)),O 125 (.load none (.t 124)),O 126 (.mv (.t 17)),O 127 (.ia 2 (.t 125) (.t 126)),O 128 (.load (some 2) (.t 127)),O 129 (.mv (.t 3)),O 130 (.mv (.t 19)),O 131 (.mv (.t 24)),O 132 (.ia 1 (.t 130) (.t 131)),O 133 (.load none (.t 132)),O 134 (.call 113 [(.t 128),(.t 129),(.t 133)])])
 (.cond (.t 134) (.seq (.reg [0,1,2,3,4,5,6,17,18,19,24] [O 135 (.mv (.t 6)),O 136 (.mv (.t 19)),O 137 (.mv (.t 24)),O 138 (.ia 1 (.t 136) (.t 137)),O 139 (.load none (.t 138)),O 140 (.call 125 [(.t 139)]),O 141 (.call 123 [(.t 135),(.t 140)]),O 6 (.mv (.t 141))])
 (.exit 5)) (.skip)))
 (.seq (.regd [0,1,2,3,4,5,6,17,18,19,24,25] [0,1,2,3,4,5,6,7,8,9,10,11,12,13,14,15,16] [0,0,2,6,14,0,0,0,192,448,1022,0,0,0,8192,32767,65535] [0,0,0,0,1,0,0,0,0,1,4,0,0,0,0,4,0] [O 142 (.mv (.t 0)),O 143 (.mv (.t 0)),O 144 (.nilc (.t 143)),O 145 (.fa 0 (.t 144)),O 146 (.load none (.t 145)),O 147 (.mv (.t 3)),O 148 (.mv (.t 19)),O 149 (.mv (.t 24)),O 150 (.ia 1 (.t 148) (.t 149)),O 151 (.load none (.t 150)),O 152 (.call 90 [(.t 146),(.t 147),(.t 151)]),O 153 (.mv (.t 5)),O 154 (.mv (.t 3)),O 155 (.mv (.t 1)),O 156 (.bsl 1 [(.t 155)]),O 157 (.call 91 [(.t 142),(.t 152),(.t 153),(.t 154),(.t 156)]),O 25 (.mv (.t 157))])
 (.seq (.regd [0,1,2,3,4,5,6,17,18,19,24,25] [0,1,2,3,4,5,6,7,8,9,10,11,12,13] [0,1,3,7,0,0,0,96,224,480,992,2047,4095,8191] [0,0,0,1,0,0,0,0,1,2,0,0,0,4] [O 158 (.mv (.t 0)),O 159 (.nilc (.t 158)),O 160 (.fa 3 (.t 159)),O 161 (.load none (.t 160)),O 162 (.mv (.t 25)),O 163 (.mv (.t 19)),O 164 (.mv (.t 24)),O 165 (.ia 1 (.t 163) (.t 164)),O 166 (.load none (.t 165)),O 167 (.call 125 [(.t 166)]),O 168 (.bsl 5 [(.t 167)]),O 169 (.ia 6 (.t 161) (.t 162)),O 170 (.fa 3 (.t 169)),.mk none none (.store 1 (.t 170) (.t 168))])
 (.reg [0,1,2,3,4,5,6,17,18,19,24] [O 171 (.mv (.t 18)),O 172 (.mv (.t 25)),O 173 (.bsl 1 [(.t 172)]),O 174 (.app 1 (.t 171) (.t 173)),O 18 (.mv (.t 174))])))))
 (.reg [0,1,2,3,4,5,6,17,18,19,24] [O 120 (.mv (.t 24)),O 121 (.bin .add (.t 120) (.c (.int .i64 1))),O 24 (.mv (.t 121))]))))))
 (.seq (.frz 18 0 (.reg [0,3,4,5,6,19,26] [O 175 (.mv (.t 0)),O 176 (.mv (.t 2)),O 177 (.mv (.t 5)),O 178 (.mv (.t 3)),O 179 (.mv (.t 18)),O 180 (.call 91 [(.t 175),(.t 176),(.t 177),(.t 178),(.t 179)]),O 26 (.mv (.t 180))]))
 (.seq (.reg [0,3,4,5,6,26] [O 181 (.mv (.t 0)),O 182 (.nilc (.t 181)),O 183 (.fa 3 (.t 182)),O 184 (.load none (.t 183)),O 185 (.mv (.t 26)),O 186 (.mv (.t 19)),O 187 (.ia 6 (.t 184) (.t 185)),O 188 (.fa 5 (.t 187)),.mk none none (.store 1 (.t 188) (.t 186))])
 (.seq (.reg [0,6,26,27] [O 189 (.mv (.t 0)),O 190 (.mv (.t 26)),O 191 (.mv (.t 3)),O 192 (.mv (.t 4)),O 193 (.mv (.t 5)),O 194 (.call 126 [(.t 189),(.t 190),(.t 191),(.t 192),(.t 193)]),O 27 (.mv (.t 194))])
 (.seq (.reg [6] [O 195 (.mv (.t 0)),O 196 (.nilc (.t 195)),O 197 (.fa 3 (.t 196)),O 198 (.load none (.t 197)),O 199 (.mv (.t 26)),O 200 (.mv (.t 27)),O 201 (.ia 6 (.t 198) (.t 199)),O 202 (.fa 3 (.t 201)),.mk none none (.store 1 (.t 202) (.t 200))])
 (.seq (.reg [14] [O 203 (.mv (.t 6)),O 14 (.mv (.t 203))])
 (.ret)))))))))))))
def cy114:List (Nat×An):=[(14,.t (.lst (.nm .Sel))),(28,.t .str),(29,.t .bool),(31,.t (.int .i64)),(32,.t (.lst .str)),(33,.t .str),(34,.t (.lst (.int .i64))),(35,.t (.int .i64)),(15,.t (.int .i64)),(37,.t (.int .i64)),(38,.t .str),(39,.t (.lst (.nm .Sel))),(40,.t (.lst .str)),(41,.t (.lst (.nm .Sel))),(16,.t (.lst (.nm .Sel))),(45,.t (.lst (.nm .Stp))),(46,.t (.int .i64)),(47,.t (.lst (.nm .Sel))),(50,.t (.lst (.nm .Sel))),(51,.t (.lst (.nm .Sel))),(56,.t (.lst (.nm .Typ))),(60,.t (.nm .Part)),(61,.t .str),(62,.t (.int .i64)),(65,.t .str),(66,.t (.nm .Sel)),(67,.t (.lst (.nm .Sel))),(6,.t (.lst (.nm .Sel))),(71,.t (.lst (.nm .Stp))),(72,.t (.int .i64)),(75,.t (.int .i64)),(17,.t (.int .i64)),(76,.t (.int .i64)),(77,.t (.lst (.int .i64))),(18,.t (.lst (.int .i64))),(78,.t (.lst .str)),(19,.t (.lst .str)),(20,.t (.int .i64)),(79,.t (.int .i64)),(80,.t (.lst (.nm .Sel))),(81,.t (.int .i64)),(82,.t .bool),(89,.t (.lst (.nm .Part))),(90,.t (.int .i64)),(92,.t (.nm .Part)),(93,.t .str),(94,.t (.lst (.nm .Sel))),(95,.t (.int .i64)),(98,.t .str),(100,.t (.nm .Field)),(101,.t .bool),(21,.cells ⟨some .Field,[some (.str,.no),some (.str,.no),some (.bool,.no),some (.bool,.no),some (.bool,.no),some (.bool,.no),some (.bool,.no),some ((.lst .str),.no)]⟩),(22,.t .bool),(23,.t (.int .i64)),(102,.t (.int .i64)),(104,.t (.lst .str)),(105,.t (.int .i64)),(106,.t .bool),(109,.t (.lst .str)),(111,.t (.lst .str)),(112,.t (.int .i64)),(114,.t .str),(115,.t (.lst .str)),(107,.t (.int .i64)),(108,.t (.int .i64)),(83,.t (.int .i64)),(84,.t (.int .i64)),(24,.t (.int .i64)),(116,.t (.int .i64)),(117,.t (.lst .str)),(118,.t (.int .i64)),(119,.t .bool),(125,.t (.lst (.nm .Part))),(126,.t (.int .i64)),(128,.t (.nm .Part)),(129,.t .str),(130,.t (.lst .str)),(131,.t (.int .i64)),(133,.t .str),(134,.t .bool),(135,.t (.lst (.nm .Sel))),(136,.t (.lst .str)),(137,.t (.int .i64)),(139,.t .str),(140,.t (.nm .Sel)),(141,.t (.lst (.nm .Sel))),(146,.t (.lst (.nm .Part))),(147,.t .str),(148,.t (.lst .str)),(149,.t (.int .i64)),(151,.t .str),(152,.t (.int .i64)),(153,.t (.lst .str)),(154,.t .str),(155,.t (.int .i64)),(156,.t (.lst (.int .i64))),(157,.t (.int .i64)),(25,.t (.int .i64)),(161,.t (.lst (.nm .Stp))),(162,.t (.int .i64)),(163,.t (.lst .str)),(164,.t (.int .i64)),(166,.t .str),(167,.t (.nm .Sel)),(168,.t (.lst (.nm .Sel))),(171,.t (.lst (.int .i64))),(172,.t (.int .i64)),(173,.t (.lst (.int .i64))),(174,.t (.lst (.int .i64))),(120,.t (.int .i64)),(121,.t (.int .i64)),(176,.t (.int .i64)),(177,.t (.lst .str)),(178,.t .str),(179,.t (.lst (.int .i64))),(180,.t (.int .i64)),(26,.t (.int .i64)),(184,.t (.lst (.nm .Stp))),(185,.t (.int .i64)),(186,.t (.lst .str)),(190,.t (.int .i64)),(191,.t .str),(192,.t (.lst (.nm .Sel))),(193,.t (.lst .str)),(194,.t (.lst (.nm .Sel))),(27,.t (.lst (.nm .Sel))),(198,.t (.lst (.nm .Stp))),(199,.t (.int .i64)),(200,.t (.lst (.nm .Sel))),(203,.t (.lst (.nm .Sel)))]
def c115:CC :=
 .seq (.reg [1,2,4] [O 2 (.boxm 2 (.t 0)),O 4 (.alloc [(.str []),.e0])])
 (.seq (.seq (.reg [1,2,4,13] [O 6 (.mv (.t 1)),O 7 (.call 100 [(.t 6)]),O 8 (.mv (.t 7)),.mk (some 9) (some (8,false)) (.load (some 2) (.t 2)),.mk (some 10) (some (8,false)) (.mv (.t 1)),.mk (some 11) (some (8,false)) (.call 98 [(.t 9),(.t 10)]),.mk (some 12) (some (8,false)) (.bin .geq (.t 11) (.c (.int .i64 0))),O 13 (.pick (.t 8) (.c (.bool true)) (.t 12))])
 (.cond (.t 13) (.seq (.reg [4] [O 14 (.load (some 2) (.t 2)),.mk none none (.store 2 (.t 4) (.t 14))])
 (.ret)) (.skip)))
 (.seq (.reg [1,2,4,5] [O 15 (.mv (.t 1)),O 16 (.build [(.str []),(.str []),.e0] [(0,1,(.t 15))]),O 5 (.alloc [(.str []),(.str []),.e0]),.mk none none (.store 3 (.t 5) (.t 16))])
 (.seq (.reg [1,2,4,5] [O 17 (.build [(.str []),(.str []),(.bool false),(.bool false),(.bool false),(.bool false),(.bool false),.sl 1 []] [(0,1,(.c (.str [98,111,100,121]))),(1,1,(.c (.str [116,101,120,116]))),(3,1,(.c (.bool true))),(6,1,(.c (.bool true)))]),O 18 (.bslm 8 [(.t 17)]),O 19 (.fa 2 (.t 5)),.mk none none (.store 1 (.t 19) (.t 18))])
 (.seq (.seq (.reg [2,4,5,21] [O 20 (.mv (.t 1)),O 21 (.bin .neq (.t 20) (.c (.str [110,111,116,101])))])
 (.jn false [] [2,4,5] (.cond (.t 21) (.seq (.reg [2,4,5] [O 22 (.fa 1 (.t 5)),.mk none none (.store 1 (.t 22) (.c (.str [105,100])))])
 (.reg [2,4,5] [O 23 (.build [(.str []),(.str []),(.bool false),(.bool false),(.bool false),(.bool false),(.bool false),.sl 1 []] [(0,1,(.c (.str [105,100]))),(1,1,(.c (.str [105,110,116]))),(3,1,(.c (.bool true)))]),O 24 (.bslm 8 [(.t 23)]),O 25 (.fa 2 (.t 5)),.mk none none (.store 1 (.t 25) (.t 24))])) (.skip))))
 (.seq (.reg [2,4] [O 26 (.fa 1 (.t 2)),O 27 (.load none (.t 26)),O 28 (.load (some 3) (.t 5)),O 29 (.bslm 3 [(.t 28)]),O 30 (.app 3 (.t 27) (.t 29)),O 31 (.fa 1 (.t 2)),.mk none none (.store 1 (.t 31) (.t 30))])
 (.seq (.reg [4] [O 32 (.load (some 2) (.t 2)),.mk none none (.store 2 (.t 4) (.t 32))])
 (.ret)))))))
def cy115:List (Nat×An):=[(2,.cells ⟨some .Part,[some (.str,.no),some ((.lst (.nm .Typ)),.at [(2,.no)])]⟩),(4,.cells ⟨some .Part,[some (.str,.no),some ((.lst (.nm .Typ)),.at [(2,.no)])]⟩),(13,.t .bool),(14,.t (.nm .Part)),(5,.cells ⟨some .Typ,[some (.str,.no),some (.str,.no),some ((.lst (.nm .Field)),.no)]⟩),(17,.t (.nm .Field)),(18,.t (.lst (.nm .Field))),(23,.t (.nm .Field)),(24,.t (.lst (.nm .Field))),(28,.t (.nm .Typ)),(29,.o (.nm .Typ) (.at [(2,.no)])),(30,.o (.nm .Typ) (.at [(2,.no)])),(32,.t (.nm .Part))]
def c116:CC :=
 .seq (.reg [1,2] [O 2 (.boxi 3 (.t 0)),O 4 (.mv (.c (.int .i64 0)))])
 (.seq (.seq (.reg [1,2,5] [O 5 (.mv (.c (.int .i64 0)))])
 (.block 0 (.lp true 0 [5] [1,2] (.seq (.seq (.reg [1,2,5,10] [O 6 (.mv (.t 5)),O 7 (.fa 2 (.t 2)),O 8 (.load none (.t 7)),O 9 (.lenl (.t 8)),O 10 (.bin .lss (.t 6) (.t 9))])
 (.cond (.t 10) (.skip) (.exit 0)))
 (.seq (.block 1 (.seq (.reg [1,2,5,20] [O 13 (.fa 2 (.t 2)),O 14 (.load none (.t 13)),O 15 (.mv (.t 5)),O 16 (.ia 8 (.t 14) (.t 15)),O 17 (.fa 0 (.t 16)),O 18 (.load none (.t 17)),O 19 (.mv (.t 1)),O 20 (.bin .eql (.t 18) (.t 19))])
 (.cond (.t 20) (.seq (.reg [4] [O 21 (.mv (.t 5)),O 4 (.mv (.t 21))])
 (.ret)) (.skip))))
 (.reg [1,2,5] [O 11 (.mv (.t 5)),O 12 (.bin .add (.t 11) (.c (.int .i64 1))),O 5 (.mv (.t 12))]))))))
 (.seq (.reg [4] [O 4 (.mv (.c (.int .i64 (-1))))])
 (.ret)))
def cy116:List (Nat×An):=[(2,.cells ⟨some .Typ,[some (.str,.no),some (.str,.no),some ((.lst (.nm .Field)),.no)]⟩),(4,.t (.int .i64)),(5,.t (.int .i64))]
def c117:CC :=
 .seq (.reg [0,1,3,6] [O 6 (.boxi 2 (.t 2))])
 (.seq (.reg [0,1,3,6,8] [O 15 (.mv (.t 0)),O 16 (.nilc (.t 15)),O 17 (.fa 0 (.t 16)),O 18 (.load none (.t 17)),O 19 (.mv (.t 3)),O 20 (.ia 2 (.t 18) (.t 19)),O 21 (.load (some 2) (.t 20)),O 8 (.alloc [(.int .i64 0),(.str [])]),.mk none none (.store 2 (.t 8) (.t 21))])
 (.frz 8 0 (.seq (.regd [0,1,3,8,9] [0,1,2,3,4,5,6,7,8,9] [0,1,0,0,8,28,63,127,0,511] [0,0,0,0,0,4,0,0,4,4] [O 22 (.fa 1 (.t 6)),O 23 (.load none (.t 22)),O 24 (.load (some 2) (.t 6)),O 25 (.fa 1 (.t 8)),O 26 (.load none (.t 25)),O 27 (.call 98 [(.t 24),(.t 26)]),O 28 (.ia 3 (.t 23) (.t 27)),O 29 (.load (some 3) (.t 28)),O 9 (.alloc [(.str []),(.str []),.e0]),.mk none none (.store 3 (.t 9) (.t 29))])
 (.frz 9 0 (.seq (.reg [0,1,3,8,9,10] [O 10 (.mv (.c (.int .i64 0)))])
 (.block 0 (.lp false 0 [10] [0,1,3,8,9] (.seq (.seq (.reg [0,1,3,8,9,10,34] [O 30 (.mv (.t 10)),O 31 (.fa 2 (.t 9)),O 32 (.load none (.t 31)),O 33 (.lenl (.t 32)),O 34 (.bin .lss (.t 30) (.t 33))])
 (.cond (.t 34) (.skip) (.exit 0)))
 (.seq (.block 1 (.seq (.reg [0,1,3,8,9,10,11] [O 37 (.fa 2 (.t 9)),O 38 (.load none (.t 37)),O 39 (.mv (.t 10)),O 40 (.ia 8 (.t 38) (.t 39)),O 41 (.load (some 8) (.t 40)),O 11 (.alloc [(.str []),(.str []),(.bool false),(.bool false),(.bool false),(.bool false),(.bool false),.e0]),.mk none none (.store 8 (.t 11) (.t 41))])
 (.frz 11 0 (.seq (.seq (.reg [0,1,3,8,9,10,11,43] [O 42 (.fa 5 (.t 11)),O 43 (.load none (.t 42))])
 (.cond (.t 43) (.exit 1) (.skip)))
 (.seq (.frz 11 0 (.regd [0,1,3,8,9,10,11,12] [0,1,2,3,4,5,6,7,8,9,10,11,12,13] [0,0,2,6,14,0,62,126,255,0,512,1536,4095,8191] [0,0,0,0,1,0,0,1,3,0,0,0,3,0] [O 44 (.bsl0),O 45 (.mv (.t 0)),O 46 (.nilc (.t 45)),O 47 (.fa 1 (.t 46)),O 48 (.load none (.t 47)),O 49 (.mv (.t 3)),O 50 (.ia 1 (.t 48) (.t 49)),O 51 (.load none (.t 50)),O 52 (.app 1 (.t 44) (.t 51)),O 53 (.fa 0 (.t 11)),O 54 (.load none (.t 53)),O 55 (.bsl 1 [(.t 54)]),O 56 (.apf 1 (.t 52) (.t 55)),O 12 (.mv (.t 56))]))
 (.seq (.reg [0,1,3,8,9,10,11,12,13] [O 57 (.mv (.t 1)),O 58 (.fa 0 (.t 8)),O 59 (.load none (.t 58)),O 60 (.fa 1 (.t 8)),O 61 (.load none (.t 60)),O 62 (.fa 0 (.t 11)),O 63 (.load none (.t 62)),O 64 (.call 112 [(.t 57),(.t 59),(.t 61),(.t 63)]),O 13 (.mv (.t 64))])
 (.seq (.seq (.reg [0,1,3,8,9,10,11,12,13,66] [O 65 (.mv (.t 13)),O 66 (.bin .lss (.t 65) (.c (.int .i64 0)))])
 (.cond (.t 66) (.seq (.seq (.reg [0,1,3,8,9,10,12,72] [O 67 (.mv (.t 0)),O 68 (.nilc (.t 67)),O 69 (.fa 2 (.t 68)),O 70 (.load none (.t 69)),O 71 (.lenl (.t 70)),O 72 (.bin .eql (.t 71) (.c (.int .i64 0)))])
 (.jn false [] [0,1,3,8,9,10] (.cond (.t 72) (.reg [0,1,3,8,9,10] [O 73 (.mv (.t 0)),O 74 (.mv (.t 12)),O 75 (.nilc (.t 73)),O 76 (.fa 2 (.t 75)),.mk none none (.store 1 (.t 76) (.t 74))]) (.skip))))
 (.exit 1)) (.skip)))
 (.seq (.frz 11 0 (.reg [0,1,3,8,9,10,11,12,14] [O 77 (.mv (.t 13)),O 78 (.fa 1 (.t 11)),O 79 (.load none (.t 78)),O 80 (.build [(.int .i64 0),(.str [])] [(0,1,(.t 77)),(1,1,(.t 79))]),O 14 (.alloc [(.int .i64 0),(.str [])]),.mk none none (.store 2 (.t 14) (.t 80))]))
 (.frz 14 0 (.seq (.regd [0,1,3,8,9,10,12,14,93] [0,1,2,3,4,5,6,7,8,9,10,11,12] [0,1,3,7,15,31,63,127,255,31,1023,2047,4095] [0,0,4,0,0,0,0,0,1,0,4,0,0] [O 81 (.fa 1 (.t 11)),O 82 (.load none (.t 81)),O 83 (.call 100 [(.t 82)]),O 84 (.not (.t 83)),O 85 (.mv (.t 84)),.mk (some 86) (some (85,true)) (.mv (.t 0)),.mk (some 87) (some (85,true)) (.nilc (.t 86)),.mk (some 88) (some (85,true)) (.fa 0 (.t 87)),.mk (some 89) (some (85,true)) (.load none (.t 88)),.mk (some 90) (some (85,true)) (.load (some 2) (.t 14)),.mk (some 91) (some (85,true)) (.call 127 [(.t 89),(.t 90)]),.mk (some 92) (some (85,true)) (.bin .lss (.t 91) (.c (.int .i64 0))),O 93 (.pick (.t 85) (.t 92) (.c (.bool false)))])
 (.jn false [] [0,1,3,8,9,10] (.cond (.t 93) (.seq (.frz 14 0 (.regd [0,1,3,8,9,10,12] [0,1,2,3,4,5,6,7,8,9,10] [0,0,2,6,14,0,32,126,255,511,1023] [0,0,0,0,1,0,0,3,0,0,4] [O 94 (.mv (.t 0)),O 95 (.mv (.t 0)),O 96 (.nilc (.t 95)),O 97 (.fa 0 (.t 96)),O 98 (.load none (.t 97)),O 99 (.load (some 2) (.t 14)),O 100 (.bsl 2 [(.t 99)]),O 101 (.app 2 (.t 98) (.t 100)),O 102 (.nilc (.t 94)),O 103 (.fa 0 (.t 102)),.mk none none (.store 1 (.t 103) (.t 101))]))
 (.frz 12 0 (.reg [0,1,3,8,9,10] [O 104 (.mv (.t 0)),O 105 (.mv (.t 0)),O 106 (.nilc (.t 105)),O 107 (.fa 1 (.t 106)),O 108 (.load none (.t 107)),O 109 (.mv (.t 12)),O 110 (.bsl 1 [(.t 109)]),O 111 (.app 1 (.t 108) (.t 110)),O 112 (.nilc (.t 104)),O 113 (.fa 1 (.t 112)),.mk none none (.store 1 (.t 113) (.t 111))]))) (.skip)))))))))))))
 (.reg [0,1,3,8,9,10] [O 35 (.mv (.t 10)),O 36 (.bin .add (.t 35) (.c (.int .i64 1))),O 10 (.mv (.t 36))]))))))))))
def cy117:List (Nat×An):=[(6,.cells ⟨some .Part,[some (.str,.no),some ((.lst (.nm .Typ)),.no)]⟩),(18,.t (.lst (.nm .Stt))),(19,.t (.int .i64)),(21,.t (.nm .Stt)),(8,.cells ⟨some .Stt,[some ((.int .i64),.no),some (.str,.no)]⟩),(23,.t (.lst (.nm .Typ))),(24,.t (.nm .Part)),(26,.t .str),(27,.t (.int .i64)),(29,.t (.nm .Typ)),(9,.cells ⟨some .Typ,[some (.str,.no),some (.str,.no),some ((.lst (.nm .Field)),.no)]⟩),(10,.t (.int .i64)),(30,.t (.int .i64)),(32,.t (.lst (.nm .Field))),(33,.t (.int .i64)),(34,.t .bool),(38,.t (.lst (.nm .Field))),(39,.t (.int .i64)),(41,.t (.nm .Field)),(11,.cells ⟨some .Field,[some (.str,.no),some (.str,.no),some (.bool,.no),some (.bool,.no),some (.bool,.no),some (.bool,.no),some (.bool,.no),some ((.lst .str),.no)]⟩),(43,.t .bool),(44,.t (.lst .str)),(48,.t (.lst (.lst .str))),(49,.t (.int .i64)),(51,.t (.lst .str)),(52,.t (.lst .str)),(54,.t .str),(55,.t (.lst .str)),(56,.t (.lst .str)),(12,.t (.lst .str)),(57,.t (.lst (.nm .Part))),(59,.t (.int .i64)),(61,.t .str),(63,.t .str),(64,.t (.int .i64)),(13,.t (.int .i64)),(65,.t (.int .i64)),(66,.t .bool),(70,.t (.lst .str)),(71,.t (.int .i64)),(72,.t .bool),(74,.t (.lst .str)),(77,.t (.int .i64)),(79,.t .str),(80,.t (.nm .Stt)),(14,.cells ⟨some .Stt,[some ((.int .i64),.no),some (.str,.no)]⟩),(82,.t .str),(83,.t .bool),(84,.t .bool),(85,.t .bool),(89,.t (.lst (.nm .Stt))),(90,.t (.nm .Stt)),(91,.t (.int .i64)),(92,.t .bool),(93,.t .bool),(98,.t (.lst (.nm .Stt))),(99,.t (.nm .Stt)),(100,.t (.lst (.nm .Stt))),(101,.t (.lst (.nm .Stt))),(108,.t (.lst (.lst .str))),(109,.t (.lst .str)),(110,.t (.lst (.lst .str))),(111,.t (.lst (.lst .str))),(35,.t (.int .i64)),(36,.t (.int .i64))]
def c118:CC :=
 .seq (.reg [2,3] [O 2 (.boxi 8 (.t 0)),O 3 (.boxi 8 (.t 1)),O 4 (.mv (.c (.bool false)))])
 (.seq (.reg [4] [O 5 (.fa 1 (.t 2)),O 6 (.load none (.t 5)),O 7 (.fa 1 (.t 3)),O 8 (.load none (.t 7)),O 9 (.bin .eql (.t 6) (.t 8)),O 10 (.mv (.t 9)),.mk (some 11) (some (10,true)) (.fa 2 (.t 2)),.mk (some 12) (some (10,true)) (.load none (.t 11)),.mk (some 13) (some (10,true)) (.fa 2 (.t 3)),.mk (some 14) (some (10,true)) (.load none (.t 13)),.mk (some 15) (some (10,true)) (.beq .eql (.t 12) (.t 14)),O 16 (.pick (.t 10) (.t 15) (.c (.bool false))),O 17 (.mv (.t 16)),.mk (some 18) (some (17,true)) (.fa 3 (.t 2)),.mk (some 19) (some (17,true)) (.load none (.t 18)),.mk (some 20) (some (17,true)) (.fa 3 (.t 3)),.mk (some 21) (some (17,true)) (.load none (.t 20)),.mk (some 22) (some (17,true)) (.beq .eql (.t 19) (.t 21)),O 23 (.pick (.t 17) (.t 22) (.c (.bool false))),O 4 (.mv (.t 23))])
 (.ret))
def cy118:List (Nat×An):=[(2,.cells ⟨some .Field,[some (.str,.no),some (.str,.no),some (.bool,.no),some (.bool,.no),some (.bool,.no),some (.bool,.no),some (.bool,.no),some ((.lst .str),.no)]⟩),(3,.cells ⟨some .Field,[some (.str,.no),some (.str,.no),some (.bool,.no),some (.bool,.no),some (.bool,.no),some (.bool,.no),some (.bool,.no),some ((.lst .str),.no)]⟩),(4,.t .bool)]
def c119:CC :=
 .seq (.reg [0] [O 2 (.mv (.c (.bool false)))])
 (.seq (.seq (.reg [0,7] [O 4 (.mv (.t 0)),O 5 (.lens (.t 4)),O 6 (.call 35 [(.t 5),(.c (.int .i64 1)),(.c (.int .i64 9))]),O 7 (.not (.t 6))])
 (.cond (.t 7) (.seq (.reg [2] [O 2 (.mv (.c (.bool false)))])
 (.ret)) (.skip)))
 (.seq (.seq (.reg [0,3] [O 3 (.mv (.c (.int .i64 0)))])
 (.block 0 (.lp true 0 [3] [0] (.seq (.seq (.reg [0,3,11] [O 8 (.mv (.t 3)),O 9 (.mv (.t 0)),O 10 (.lens (.t 9)),O 11 (.bin .lss (.t 8) (.t 10))])
 (.cond (.t 11) (.skip) (.exit 0)))
 (.seq (.block 1 (.seq (.reg [0,3,46] [O 14 (.mv (.t 0)),O 15 (.mv (.t 3)),O 16 (.idx (.t 14) (.t 15)),O 17 (.bin .geq (.t 16) (.c (.int .u8 97))),O 18 (.mv (.t 17)),.mk (some 19) (some (18,true)) (.mv (.t 0)),.mk (some 20) (some (18,true)) (.mv (.t 3)),.mk (some 21) (some (18,true)) (.idx (.t 19) (.t 20)),.mk (some 22) (some (18,true)) (.bin .leq (.t 21) (.c (.int .u8 122))),O 23 (.pick (.t 18) (.t 22) (.c (.bool false))),O 24 (.mv (.t 23)),.mk (some 25) (some (24,false)) (.mv (.t 0)),.mk (some 26) (some (24,false)) (.mv (.t 3)),.mk (some 27) (some (24,false)) (.idx (.t 25) (.t 26)),.mk (some 28) (some (24,false)) (.bin .eql (.t 27) (.c (.int .u8 95))),O 29 (.pick (.t 24) (.c (.bool true)) (.t 28)),O 30 (.mv (.t 29)),.mk (some 31) (some (30,false)) (.mv (.t 3)),.mk (some 32) (some (30,false)) (.bin .gtr (.t 31) (.c (.int .i64 0))),.mk (some 33) (some (30,false)) (.mv (.t 32)),.mk (some 34) (some (33,true)) (.mv (.t 0)),.mk (some 35) (some (33,true)) (.mv (.t 3)),.mk (some 36) (some (33,true)) (.idx (.t 34) (.t 35)),.mk (some 37) (some (33,true)) (.bin .geq (.t 36) (.c (.int .u8 48))),.mk (some 38) (some (30,false)) (.pick (.t 33) (.t 37) (.c (.bool false))),.mk (some 39) (some (30,false)) (.mv (.t 38)),.mk (some 40) (some (39,true)) (.mv (.t 0)),.mk (some 41) (some (39,true)) (.mv (.t 3)),.mk (some 42) (some (39,true)) (.idx (.t 40) (.t 41)),.mk (some 43) (some (39,true)) (.bin .leq (.t 42) (.c (.int .u8 57))),.mk (some 44) (some (30,false)) (.pick (.t 39) (.t 43) (.c (.bool false))),O 45 (.pick (.t 30) (.c (.bool true)) (.t 44)),O 46 (.not (.t 45))])
 (.cond (.t 46) (.seq (.reg [2] [O 2 (.mv (.c (.bool false)))])
 (.ret)) (.skip))))
 (.reg [0,3] [O 12 (.mv (.t 3)),O 13 (.bin .add (.t 12) (.c (.int .i64 1))),O 3 (.mv (.t 13))]))))))
 (.seq (.reg [2] [O 2 (.mv (.c (.bool true)))])
 (.ret))))
def cy119:List (Nat×An):=[(2,.t .bool),(3,.t (.int .i64)),(46,.t .bool)]
def c120:CC :=
 .seq (.reg [1] [O 1 (.boxi 3 (.t 0)),O 2 (.mv (.c (.bool false)))])
 (.seq (.seq (.reg [1,7] [O 5 (.fa 1 (.t 1)),O 6 (.load none (.t 5)),O 7 (.bin .eql (.t 6) (.c (.str [])))])
 (.cond (.t 7) (.seq (.reg [2] [O 2 (.mv (.c (.bool true)))])
 (.ret)) (.skip)))
 (.seq (.reg [1,3] [O 8 (.load (some 3) (.t 1)),O 9 (.fa 1 (.t 1)),O 10 (.load none (.t 9)),O 11 (.call 116 [(.t 8),(.t 10)]),O 3 (.mv (.t 11))])
 (.seq (.seq (.reg [1,3,13] [O 12 (.mv (.t 3)),O 13 (.bin .lss (.t 12) (.c (.int .i64 0)))])
 (.cond (.t 13) (.seq (.reg [2] [O 2 (.mv (.c (.bool false)))])
 (.ret)) (.skip)))
 (.seq (.reg [4] [O 14 (.fa 2 (.t 1)),O 15 (.load none (.t 14)),O 16 (.mv (.t 3)),O 17 (.ia 8 (.t 15) (.t 16)),O 18 (.load (some 8) (.t 17)),O 4 (.alloc [(.str []),(.str []),(.bool false),(.bool false),(.bool false),(.bool false),(.bool false),.e0]),.mk none none (.store 8 (.t 4) (.t 18))])
 (.frz 4 0 (.seq (.reg [2] [O 19 (.fa 1 (.t 4)),O 20 (.load none (.t 19)),O 21 (.bin .eql (.t 20) (.c (.str [105,110,116]))),O 22 (.mv (.t 21)),.mk (some 23) (some (22,true)) (.fa 2 (.t 4)),.mk (some 24) (some (22,true)) (.load none (.t 23)),.mk (some 25) (some (22,true)) (.not (.t 24)),O 26 (.pick (.t 22) (.t 25) (.c (.bool false))),O 27 (.mv (.t 26)),.mk (some 28) (some (27,true)) (.fa 3 (.t 4)),.mk (some 29) (some (27,true)) (.load none (.t 28)),O 30 (.pick (.t 27) (.t 29) (.c (.bool false))),O 31 (.mv (.t 30)),.mk (some 32) (some (31,true)) (.fa 4 (.t 4)),.mk (some 33) (some (31,true)) (.load none (.t 32)),.mk (some 34) (some (31,true)) (.not (.t 33)),O 35 (.pick (.t 31) (.t 34) (.c (.bool false))),O 36 (.mv (.t 35)),.mk (some 37) (some (36,true)) (.fa 5 (.t 4)),.mk (some 38) (some (36,true)) (.load none (.t 37)),.mk (some 39) (some (36,true)) (.not (.t 38)),O 40 (.pick (.t 36) (.t 39) (.c (.bool false))),O 41 (.mv (.t 40)),.mk (some 42) (some (41,true)) (.fa 7 (.t 4)),.mk (some 43) (some (41,true)) (.load none (.t 42)),.mk (some 44) (some (41,true)) (.lenl (.t 43)),.mk (some 45) (some (41,true)) (.bin .eql (.t 44) (.c (.int .i64 0))),O 46 (.pick (.t 41) (.t 45) (.c (.bool false))),O 2 (.mv (.t 46))])
 (.ret)))))))
def cy120:List (Nat×An):=[(1,.cells ⟨some .Typ,[some (.str,.no),some (.str,.no),some ((.lst (.nm .Field)),.no)]⟩),(2,.t .bool),(8,.t (.nm .Typ)),(18,.t (.nm .Field)),(4,.cells ⟨some .Field,[some (.str,.no),some (.str,.no),some (.bool,.no),some (.bool,.no),some (.bool,.no),some (.bool,.no),some (.bool,.no),some ((.lst .str),.no)]⟩)]
def c121:CC :=
 .seq (.reg [2,3] [O 2 (.boxi 3 (.t 0)),O 3 (.boxi 8 (.t 1)),O 4 (.mv (.c (.bool false)))])
 (.seq (.seq (.reg [2,3,39] [O 7 (.fa 7 (.t 3)),O 8 (.load none (.t 7)),O 9 (.lenl (.t 8)),O 10 (.bin .gtr (.t 9) (.c (.int .i64 0))),O 11 (.mv (.t 10)),.mk (some 12) (some (11,true)) (.fa 1 (.t 3)),.mk (some 13) (some (11,true)) (.load none (.t 12)),.mk (some 14) (some (11,true)) (.bin .neq (.t 13) (.c (.str [105,110,116]))),.mk (some 15) (some (11,true)) (.mv (.t 14)),.mk (some 16) (some (15,false)) (.fa 2 (.t 3)),.mk (some 17) (some (15,false)) (.load none (.t 16)),.mk (some 18) (some (11,true)) (.pick (.t 15) (.c (.bool true)) (.t 17)),.mk (some 19) (some (11,true)) (.mv (.t 18)),.mk (some 20) (some (19,false)) (.fa 4 (.t 3)),.mk (some 21) (some (19,false)) (.load none (.t 20)),.mk (some 22) (some (11,true)) (.pick (.t 19) (.c (.bool true)) (.t 21)),.mk (some 23) (some (11,true)) (.mv (.t 22)),.mk (some 24) (some (23,false)) (.fa 3 (.t 3)),.mk (some 25) (some (23,false)) (.load none (.t 24)),.mk (some 26) (some (11,true)) (.pick (.t 23) (.c (.bool true)) (.t 25)),.mk (some 27) (some (11,true)) (.mv (.t 26)),.mk (some 28) (some (27,false)) (.fa 1 (.t 2)),.mk (some 29) (some (27,false)) (.load none (.t 28)),.mk (some 30) (some (27,false)) (.bin .eql (.t 29) (.c (.str []))),.mk (some 31) (some (11,true)) (.pick (.t 27) (.c (.bool true)) (.t 30)),.mk (some 32) (some (11,true)) (.mv (.t 31)),.mk (some 33) (some (32,false)) (.fa 0 (.t 3)),.mk (some 34) (some (32,false)) (.load none (.t 33)),.mk (some 35) (some (32,false)) (.fa 1 (.t 2)),.mk (some 36) (some (32,false)) (.load none (.t 35)),.mk (some 37) (some (32,false)) (.bin .eql (.t 34) (.t 36)),.mk (some 38) (some (11,true)) (.pick (.t 32) (.c (.bool true)) (.t 37)),O 39 (.pick (.t 11) (.t 38) (.c (.bool false)))])
 (.cond (.t 39) (.seq (.reg [4] [O 4 (.mv (.c (.bool false)))])
 (.ret)) (.skip)))
 (.seq (.seq (.reg [2,3,5] [O 5 (.mv (.c (.int .i64 0)))])
 (.block 0 (.lp true 0 [5] [2,3] (.seq (.seq (.reg [2,3,5,44] [O 40 (.mv (.t 5)),O 41 (.fa 7 (.t 3)),O 42 (.load none (.t 41)),O 43 (.lenl (.t 42)),O 44 (.bin .lss (.t 40) (.t 43))])
 (.cond (.t 44) (.skip) (.exit 0)))
 (.seq (.block 1 (.seq (.regd [2,3,5,6] [0,1,2,3,4,5,6,7] [0,0,2,0,14,30,63,127] [0,0,0,0,0,0,4,0] [O 47 (.load (some 3) (.t 2)),O 48 (.fa 7 (.t 3)),O 49 (.load none (.t 48)),O 50 (.mv (.t 5)),O 51 (.ia 1 (.t 49) (.t 50)),O 52 (.load none (.t 51)),O 53 (.call 116 [(.t 47),(.t 52)]),O 6 (.mv (.t 53))])
 (.seq (.regd [2,3,5,100] [0,1,2,3,4,5,6,7,8,9,10,11,12,13,14,15,16,17,18,19,20,21,22,23,24,25,26,27,28,29,30,31,32,33,34,35,36,37,38,39,40,41,42,43,44,45,46] [0,1,3,7,15,7,63,127,255,511,1023,2047,4095,8191,16383,8191,65535,131071,262143,524287,1048575,2097151,4194303,8388607,4194303,33554431,67108863,134217727,268435455,536870911,1073741823,2147483647,4294967295,8589934591,17179869183,8589934591,42949672959,137438953471,274877906943,8589934591,558345748479,8589934591,3856880631807,8254927142911,17592186044415,35184372088831,70368744177663] [0,0,0,0,0,0,0,0,0,0,0,0,0,0,0,0,0,0,0,0,0,0,0,0,0,0,0,0,0,0,0,0,0,0,0,0,0,0,0,0,0,0,0,0,0,0,0] [O 54 (.mv (.t 6)),O 55 (.bin .lss (.t 54) (.c (.int .i64 0))),O 56 (.mv (.t 55)),.mk (some 57) (some (56,false)) (.fa 2 (.t 2)),.mk (some 58) (some (56,false)) (.load none (.t 57)),.mk (some 59) (some (56,false)) (.mv (.t 6)),.mk (some 60) (some (56,false)) (.ia 8 (.t 58) (.t 59)),.mk (some 61) (some (56,false)) (.fa 7 (.t 60)),.mk (some 62) (some (56,false)) (.load none (.t 61)),.mk (some 63) (some (56,false)) (.lenl (.t 62)),.mk (some 64) (some (56,false)) (.bin .gtr (.t 63) (.c (.int .i64 0))),O 65 (.pick (.t 56) (.c (.bool true)) (.t 64)),O 66 (.mv (.t 65)),.mk (some 67) (some (66,false)) (.fa 2 (.t 2)),.mk (some 68) (some (66,false)) (.load none (.t 67)),.mk (some 69) (some (66,false)) (.mv (.t 6)),.mk (some 70) (some (66,false)) (.ia 8 (.t 68) (.t 69)),.mk (some 71) (some (66,false)) (.fa 1 (.t 70)),.mk (some 72) (some (66,false)) (.load none (.t 71)),.mk (some 73) (some (66,false)) (.bin .neq (.t 72) (.c (.str [105,110,116]))),O 74 (.pick (.t 66) (.c (.bool true)) (.t 73)),O 75 (.mv (.t 74)),.mk (some 76) (some (75,false)) (.fa 2 (.t 2)),.mk (some 77) (some (75,false)) (.load none (.t 76)),.mk (some 78) (some (75,false)) (.mv (.t 6)),.mk (some 79) (some (75,false)) (.ia 8 (.t 77) (.t 78)),.mk (some 80) (some (75,false)) (.fa 2 (.t 79)),.mk (some 81) (some (75,false)) (.load none (.t 80)),O 82 (.pick (.t 75) (.c (.bool true)) (.t 81)),O 83 (.mv (.t 82)),.mk (some 84) (some (83,false)) (.mv (.t 5)),.mk (some 85) (some (83,false)) (.bin .gtr (.t 84) (.c (.int .i64 0))),.mk (some 86) (some (83,false)) (.mv (.t 85)),.mk (some 87) (some (86,true)) (.fa 7 (.t 3)),.mk (some 88) (some (86,true)) (.load none (.t 87)),.mk (some 89) (some (86,true)) (.mv (.t 5)),.mk (some 90) (some (86,true)) (.bin .sub (.t 89) (.c (.int .i64 1))),.mk (some 91) (some (86,true)) (.ia 1 (.t 88) (.t 90)),.mk (some 92) (some (86,true)) (.load none (.t 91)),.mk (some 93) (some (86,true)) (.fa 7 (.t 3)),.mk (some 94) (some (86,true)) (.load none (.t 93)),.mk (some 95) (some (86,true)) (.mv (.t 5)),.mk (some 96) (some (86,true)) (.ia 1 (.t 94) (.t 95)),.mk (some 97) (some (86,true)) (.load none (.t 96)),.mk (some 98) (some (86,true)) (.bin .geq (.t 92) (.t 97)),.mk (some 99) (some (83,false)) (.pick (.t 86) (.t 98) (.c (.bool false))),O 100 (.pick (.t 83) (.c (.bool true)) (.t 99))])
 (.cond (.t 100) (.seq (.reg [4] [O 4 (.mv (.c (.bool false)))])
 (.ret)) (.skip)))))
 (.reg [2,3,5] [O 45 (.mv (.t 5)),O 46 (.bin .add (.t 45) (.c (.int .i64 1))),O 5 (.mv (.t 46))]))))))
 (.seq (.reg [4] [O 4 (.mv (.c (.bool true)))])
 (.ret))))
def cy121:List (Nat×An):=[(2,.cells ⟨some .Typ,[some (.str,.no),some (.str,.no),some ((.lst (.nm .Field)),.no)]⟩),(3,.cells ⟨some .Field,[some (.str,.no),some (.str,.no),some (.bool,.no),some (.bool,.no),some (.bool,.no),some (.bool,.no),some (.bool,.no),some ((.lst .str),.no)]⟩),(4,.t .bool),(39,.t .bool),(5,.t (.int .i64)),(47,.t (.nm .Typ)),(100,.t .bool)]
def c122:CC :=
 .seq (.reg [1] [O 1 (.boxi 8 (.t 0)),O 2 (.mv (.c (.str [])))])
 (.seq (.reg [1,3] [O 6 (.fa 1 (.t 1)),O 7 (.load none (.t 6)),O 3 (.mv (.t 7))])
 (.seq (.seq (.reg [1,3,9] [O 8 (.fa 2 (.t 1)),O 9 (.load none (.t 8))])
 (.jn false [3] [1] (.cond (.t 9) (.reg [1,3] [O 10 (.mv (.t 3)),O 11 (.bin .add (.c (.str [91])) (.t 10)),O 12 (.bin .add (.t 11) (.c (.str [93]))),O 3 (.mv (.t 12))]) (.skip))))
 (.seq (.seq (.reg [1,3,14] [O 13 (.fa 3 (.t 1)),O 14 (.load none (.t 13))])
 (.jn false [3] [1] (.cond (.t 14) (.reg [1,3] [O 15 (.mv (.t 3)),O 16 (.bin .add (.t 15) (.c (.str [33]))),O 3 (.mv (.t 16))]) (.skip))))
 (.seq (.reg [1,4] [O 17 (.fa 0 (.t 1)),O 18 (.load none (.t 17)),O 19 (.bin .add (.c (.str [32,32])) (.t 18)),O 20 (.bin .add (.t 19) (.c (.str [32]))),O 21 (.mv (.t 3)),O 22 (.bin .add (.t 20) (.t 21)),O 4 (.mv (.t 22))])
 (.seq (.seq (.reg [1,4,24] [O 23 (.fa 4 (.t 1)),O 24 (.load none (.t 23))])
 (.jn false [4] [1] (.cond (.t 24) (.reg [1,4] [O 25 (.mv (.t 4)),O 26 (.bin .add (.t 25) (.c (.str [32,102,97,114]))),O 4 (.mv (.t 26))]) (.skip))))
 (.seq (.seq (.reg [1,4,28] [O 27 (.fa 5 (.t 1)),O 28 (.load none (.t 27))])
 (.jn false [4] [1] (.cond (.t 28) (.reg [1,4] [O 29 (.mv (.t 4)),O 30 (.bin .add (.t 29) (.c (.str [32,104,105,100,100,101,110]))),O 4 (.mv (.t 30))]) (.skip))))
 (.seq (.seq (.reg [1,4,32] [O 31 (.fa 6 (.t 1)),O 32 (.load none (.t 31))])
 (.jn false [4] [1] (.cond (.t 32) (.reg [1,4] [O 33 (.mv (.t 4)),O 34 (.bin .add (.t 33) (.c (.str [32,115,104,97,114,101,100]))),O 4 (.mv (.t 34))]) (.skip))))
 (.seq (.seq (.reg [1,4,38] [O 35 (.fa 7 (.t 1)),O 36 (.load none (.t 35)),O 37 (.lenl (.t 36)),O 38 (.bin .gtr (.t 37) (.c (.int .i64 0)))])
 (.jn false [4] [1] (.cond (.t 38) (.reg [1,4] [O 39 (.mv (.t 4)),O 40 (.bin .add (.t 39) (.c (.str [32,110,101,101,100,115]))),O 4 (.mv (.t 40))]) (.skip))))
 (.seq (.seq (.reg [1,4,5] [O 5 (.mv (.c (.int .i64 0)))])
 (.block 0 (.lp false 0 [4,5] [1] (.seq (.seq (.reg [1,4,5,45] [O 41 (.mv (.t 5)),O 42 (.fa 7 (.t 1)),O 43 (.load none (.t 42)),O 44 (.lenl (.t 43)),O 45 (.bin .lss (.t 41) (.t 44))])
 (.cond (.t 45) (.skip) (.exit 0)))
 (.seq (.block 1 (.reg [1,4,5] [O 48 (.mv (.t 4)),O 49 (.bin .add (.t 48) (.c (.str [32]))),O 50 (.fa 7 (.t 1)),O 51 (.load none (.t 50)),O 52 (.mv (.t 5)),O 53 (.ia 1 (.t 51) (.t 52)),O 54 (.load none (.t 53)),O 55 (.bin .add (.t 49) (.t 54)),O 4 (.mv (.t 55))]))
 (.reg [1,4,5] [O 46 (.mv (.t 5)),O 47 (.bin .add (.t 46) (.c (.int .i64 1))),O 5 (.mv (.t 47))]))))))
 (.seq (.reg [2] [O 56 (.mv (.t 4)),O 57 (.bin .add (.t 56) (.c (.str [10]))),O 2 (.mv (.t 57))])
 (.ret)))))))))))
def cy122:List (Nat×An):=[(1,.cells ⟨some .Field,[some (.str,.no),some (.str,.no),some (.bool,.no),some (.bool,.no),some (.bool,.no),some (.bool,.no),some (.bool,.no),some ((.lst .str),.no)]⟩),(2,.t .str),(3,.t .str),(4,.t .str),(5,.t (.int .i64))]
def c123:CC :=
 .seq (.reg [0,3] [O 3 (.boxi 5 (.t 1)),O 4 (.mv (.c (.sl 5 [])))])
 (.seq (.seq (.reg [0,3,5] [O 5 (.mv (.c (.int .i64 0)))])
 (.block 0 (.lp true 0 [5] [0,3] (.seq (.seq (.reg [0,3,5,9] [O 6 (.mv (.t 5)),O 7 (.mv (.t 0)),O 8 (.lenl (.t 7)),O 9 (.bin .lss (.t 6) (.t 8))])
 (.cond (.t 9) (.skip) (.exit 0)))
 (.seq (.block 1 (.seq (.regd [0,3,5,19] [0,1,2,3,4,5,6,7] [0,0,3,7,15,0,63,127] [0,0,0,1,4,0,4,0] [O 12 (.mv (.t 0)),O 13 (.mv (.t 5)),O 14 (.ia 5 (.t 12) (.t 13)),O 15 (.load (some 5) (.t 14)),O 16 (.call 101 [(.t 15)]),O 17 (.load (some 5) (.t 3)),O 18 (.call 101 [(.t 17)]),O 19 (.bin .eql (.t 16) (.t 18))])
 (.cond (.t 19) (.seq (.reg [4] [O 20 (.mv (.t 0)),O 4 (.mv (.t 20))])
 (.ret)) (.skip))))
 (.reg [0,3,5] [O 10 (.mv (.t 5)),O 11 (.bin .add (.t 10) (.c (.int .i64 1))),O 5 (.mv (.t 11))]))))))
 (.seq (.regd [4] [0,1,2,3,4,5,6] [0,0,3,0,8,31,63] [0,0,3,0,0,3,0] [O 21 (.bsl0),O 22 (.mv (.t 0)),O 23 (.app 5 (.t 21) (.t 22)),O 24 (.load (some 5) (.t 3)),O 25 (.bsl 5 [(.t 24)]),O 26 (.app 5 (.t 23) (.t 25)),O 4 (.mv (.t 26))])
 (.ret)))
def cy123:List (Nat×An):=[(3,.cells ⟨some .Sel,[some (.str,.no),some (.str,.no),some (.bool,.no),some ((.int .i64),.no),some ((.lst (.nm .Sel)),.no)]⟩),(4,.t (.lst (.nm .Sel))),(5,.t (.int .i64)),(6,.t (.int .i64)),(7,.t (.lst (.nm .Sel))),(8,.t (.int .i64)),(9,.t .bool),(12,.t (.lst (.nm .Sel))),(13,.t (.int .i64)),(15,.t (.nm .Sel)),(16,.t .str),(17,.t (.nm .Sel)),(18,.t .str),(19,.t .bool),(20,.t (.lst (.nm .Sel))),(10,.t (.int .i64)),(11,.t (.int .i64)),(21,.t (.lst (.nm .Sel))),(22,.t (.lst (.nm .Sel))),(23,.t (.lst (.nm .Sel))),(24,.t (.nm .Sel)),(25,.t (.lst (.nm .Sel))),(26,.t (.lst (.nm .Sel)))]
def c124:CC :=
 .seq (.reg [0,1] [O 4 (.mv (.c (.sl 1 [])))])
 (.seq (.reg [0,1,5] [O 5 (.mv (.c (.int .i64 0)))])
 (.seq (.block 0 (.lp false 0 [5] [0,1] (.seq (.seq (.reg [0,1,5,17] [O 6 (.mv (.t 5)),O 7 (.mv (.t 0)),O 8 (.lenl (.t 7)),O 9 (.bin .lss (.t 6) (.t 8)),O 10 (.mv (.t 9)),.mk (some 11) (some (10,true)) (.mv (.t 0)),.mk (some 12) (some (10,true)) (.mv (.t 5)),.mk (some 13) (some (10,true)) (.ia 1 (.t 11) (.t 12)),.mk (some 14) (some (10,true)) (.load none (.t 13)),.mk (some 15) (some (10,true)) (.mv (.t 1)),.mk (some 16) (some (10,true)) (.bin .lss (.t 14) (.t 15)),O 17 (.pick (.t 10) (.t 16) (.c (.bool false)))])
 (.cond (.t 17) (.skip) (.exit 0)))
 (.block 1 (.reg [0,1,5] [O 18 (.mv (.t 5)),O 19 (.bin .add (.t 18) (.c (.int .i64 1))),O 5 (.mv (.t 19))])))))
 (.seq (.seq (.reg [0,1,5,31] [O 20 (.mv (.t 5)),O 21 (.mv (.t 0)),O 22 (.lenl (.t 21)),O 23 (.bin .lss (.t 20) (.t 22)),O 24 (.mv (.t 23)),.mk (some 25) (some (24,true)) (.mv (.t 0)),.mk (some 26) (some (24,true)) (.mv (.t 5)),.mk (some 27) (some (24,true)) (.ia 1 (.t 25) (.t 26)),.mk (some 28) (some (24,true)) (.load none (.t 27)),.mk (some 29) (some (24,true)) (.mv (.t 1)),.mk (some 30) (some (24,true)) (.bin .eql (.t 28) (.t 29)),O 31 (.pick (.t 24) (.t 30) (.c (.bool false)))])
 (.cond (.t 31) (.seq (.reg [4] [O 32 (.mv (.t 0)),O 4 (.mv (.t 32))])
 (.ret)) (.skip)))
 (.seq (.regd [4] [0,1,2,3,4,5,6,7,8,9,10,11,12] [0,0,0,6,15,0,32,127,0,0,768,2047,4095] [0,0,0,0,3,0,0,3,0,0,0,3,0] [O 33 (.bsl0),O 34 (.mv (.t 0)),O 35 (.mv (.t 5)),O 36 (.slc 1 (.t 34) none (some (.t 35))),O 37 (.app 1 (.t 33) (.t 36)),O 38 (.mv (.t 1)),O 39 (.bsl 1 [(.t 38)]),O 40 (.app 1 (.t 37) (.t 39)),O 41 (.mv (.t 0)),O 42 (.mv (.t 5)),O 43 (.slc 1 (.t 41) (some (.t 42)) none),O 44 (.app 1 (.t 40) (.t 43)),O 4 (.mv (.t 44))])
 (.ret)))))
def cy124:List (Nat×An):=[(4,.t (.lst .str)),(5,.t (.int .i64)),(6,.t (.int .i64)),(7,.t (.lst .str)),(8,.t (.int .i64)),(9,.t .bool),(10,.t .bool),(11,.t (.lst .str)),(12,.t (.int .i64)),(14,.t .str),(15,.t .str),(16,.t .bool),(17,.t .bool),(18,.t (.int .i64)),(19,.t (.int .i64)),(20,.t (.int .i64)),(21,.t (.lst .str)),(22,.t (.int .i64)),(23,.t .bool),(24,.t .bool),(25,.t (.lst .str)),(26,.t (.int .i64)),(28,.t .str),(29,.t .str),(30,.t .bool),(31,.t .bool),(32,.t (.lst .str)),(33,.t (.lst .str)),(34,.t (.lst .str)),(35,.t (.int .i64)),(36,.t (.lst .str)),(37,.t (.lst .str)),(38,.t .str),(39,.t (.lst .str)),(40,.t (.lst .str)),(41,.t (.lst .str)),(42,.t (.int .i64)),(43,.t (.lst .str)),(44,.t (.lst .str))]
def c125:CC :=
 .seq (.reg [0,2] [O 2 (.alloc [(.str []),(.str []),(.bool false),(.int .i64 0),.e0])])
 (.seq (.reg [2] [O 3 (.mv (.t 0)),O 4 (.bin .add (.c (.str [95])) (.t 3)),O 5 (.mv (.t 0)),O 6 (.build [(.str []),(.str []),(.bool false),(.int .i64 0),.sl 5 []] [(0,1,(.t 4)),(1,1,(.t 5))]),.mk none none (.store 5 (.t 2) (.t 6))])
 (.ret))
def cy125:List (Nat×An):=[(2,.cells ⟨some .Sel,[some (.str,.no),some (.str,.no),some (.bool,.no),some ((.int .i64),.no),some ((.lst (.nm .Sel)),.no)]⟩),(3,.t .str),(4,.t .str),(5,.t .str),(6,.t (.nm .Sel))]
def c126:CC :=
 .seq (.reg [0,1,2,3,4] [O 10 (.mv (.c (.sl 5 [])))])
 (.seq (.reg [0,1,2,3,4,11] [O 16 (.bsl0),O 11 (.mv (.t 16))])
 (.seq (.seq (.reg [0,1,2,3,4,11,12] [O 12 (.mv (.c (.int .i64 0)))])
 (.block 0 (.lp false 0 [11,12] [0,1,2,3,4] (.seq (.seq (.reg [0,1,2,3,4,11,12,20] [O 17 (.mv (.t 12)),O 18 (.mv (.t 3)),O 19 (.lenl (.t 18)),O 20 (.bin .lss (.t 17) (.t 19))])
 (.cond (.t 20) (.skip) (.exit 0)))
 (.seq (.block 1 (.seq (.reg [0,1,2,3,4,11,12,13] [O 23 (.mv (.t 3)),O 24 (.mv (.t 12)),O 25 (.ia 5 (.t 23) (.t 24)),O 26 (.load (some 5) (.t 25)),O 13 (.alloc [(.str []),(.str []),(.bool false),(.int .i64 0),.e0]),.mk none none (.store 5 (.t 13) (.t 26))])
 (.seq (.regd [0,1,2,3,4,11,12,13,14] [0,1,2,3,4,5,6,7,8,9,10,11,12,13] [0,1,3,7,0,0,32,127,255,511,511,0,3071,8191] [0,0,0,1,0,0,1,4,0,0,0,4,4,0] [O 28 (.mv (.t 0)),O 29 (.nilc (.t 28)),O 30 (.fa 1 (.t 29)),O 31 (.load (some 2) (.t 30)),O 32 (.mv (.t 2)),O 33 (.fa 1 (.t 13)),O 34 (.load none (.t 33)),O 35 (.call 110 [(.t 31),(.t 32),(.t 34)]),O 27 (.mv (.t 35)),O 36 (.ext (.t 27) 0),O 37 (.ext (.t 27) 1),O 14 (.alloc [(.str []),(.str []),(.bool false),(.bool false),(.bool false),(.bool false),(.bool false),.e0]),.mk none none (.store 8 (.t 14) (.t 36)),O 15 (.mv (.t 37))])
 (.frz 14 0 (.seq (.frz 14 0 (.regd [0,1,2,3,4,11,12,13] [0,1,2,3,4,5,6,7,8,9,10,11,12,13,14,15] [0,0,0,4,0,16,0,0,192,0,960,1984,4032,8191,16383,32767] [0,0,0,0,0,1,0,0,3,1,0,0,3,4,0,4] [O 38 (.mv (.t 0)),O 39 (.mv (.t 1)),O 40 (.fa 1 (.t 14)),O 41 (.load none (.t 40)),O 42 (.fa 4 (.t 13)),O 43 (.load none (.t 42)),O 44 (.bsl0),O 45 (.mv (.t 4)),O 46 (.app 1 (.t 44) (.t 45)),O 47 (.load (some 5) (.t 13)),O 48 (.call 101 [(.t 47)]),O 49 (.bsl 1 [(.t 48)]),O 50 (.apf 1 (.t 46) (.t 49)),O 51 (.call 92 [(.t 38),(.t 39),(.t 41),(.t 43),(.t 50)]),O 52 (.fa 4 (.t 13)),.mk none none (.store 1 (.t 52) (.t 51))]))
 (.frz 13 0 (.reg [0,1,2,3,4,11,12] [O 53 (.mv (.t 11)),O 54 (.load (some 5) (.t 13)),O 55 (.bsl 5 [(.t 54)]),O 56 (.app 5 (.t 53) (.t 55)),O 11 (.mv (.t 56))])))))))
 (.reg [0,1,2,3,4,11,12] [O 21 (.mv (.t 12)),O 22 (.bin .add (.t 21) (.c (.int .i64 1))),O 12 (.mv (.t 22))]))))))
 (.seq (.reg [10] [O 57 (.mv (.t 11)),O 10 (.mv (.t 57))])
 (.ret))))
def cy126:List (Nat×An):=[(10,.t (.lst (.nm .Sel))),(16,.t (.lst (.nm .Sel))),(11,.t (.lst (.nm .Sel))),(12,.t (.int .i64)),(17,.t (.int .i64)),(18,.t (.lst (.nm .Sel))),(19,.t (.int .i64)),(20,.t .bool),(23,.t (.lst (.nm .Sel))),(24,.t (.int .i64)),(26,.t (.nm .Sel)),(13,.cells ⟨some .Sel,[some (.str,.no),some (.str,.no),some (.bool,.no),some ((.int .i64),.no),some ((.lst (.nm .Sel)),.no)]⟩),(31,.t (.nm .Part)),(32,.t .str),(34,.t .str),(36,.t (.nm .Field)),(37,.t .bool),(14,.cells ⟨some .Field,[some (.str,.no),some (.str,.no),some (.bool,.no),some (.bool,.no),some (.bool,.no),some (.bool,.no),some (.bool,.no),some ((.lst .str),.no)]⟩),(15,.t .bool),(39,.t (.int .i64)),(41,.t .str),(43,.t (.lst (.nm .Sel))),(44,.t (.lst .str)),(45,.t (.lst .str)),(46,.t (.lst .str)),(47,.t (.nm .Sel)),(48,.t .str),(49,.t (.lst .str)),(50,.t (.lst .str)),(51,.t (.lst (.nm .Sel))),(53,.t (.lst (.nm .Sel))),(54,.t (.nm .Sel)),(55,.t (.lst (.nm .Sel))),(56,.t (.lst (.nm .Sel))),(21,.t (.int .i64)),(22,.t (.int .i64)),(57,.t (.lst (.nm .Sel)))]
def c127:CC :=
 .seq (.reg [0,3] [O 3 (.boxi 2 (.t 1)),O 4 (.mv (.c (.int .i64 0)))])
 (.seq (.seq (.reg [0,3,5] [O 5 (.mv (.c (.int .i64 0)))])
 (.block 0 (.lp true 0 [5] [0,3] (.seq (.seq (.reg [0,3,5,9] [O 6 (.mv (.t 5)),O 7 (.mv (.t 0)),O 8 (.lenl (.t 7)),O 9 (.bin .lss (.t 6) (.t 8))])
 (.cond (.t 9) (.skip) (.exit 0)))
 (.seq (.block 1 (.seq (.regd [0,3,5,17] [0,1,2,3,4,5] [0,0,3,7,0,31] [0,0,0,1,0,0] [O 12 (.mv (.t 0)),O 13 (.mv (.t 5)),O 14 (.ia 2 (.t 12) (.t 13)),O 15 (.load (some 2) (.t 14)),O 16 (.load (some 2) (.t 3)),O 17 (.eqs .eql [2,1] (.t 15) (.t 16))])
 (.cond (.t 17) (.seq (.reg [4] [O 18 (.mv (.t 5)),O 4 (.mv (.t 18))])
 (.ret)) (.skip))))
 (.reg [0,3,5] [O 10 (.mv (.t 5)),O 11 (.bin .add (.t 10) (.c (.int .i64 1))),O 5 (.mv (.t 11))]))))))
 (.seq (.reg [4] [O 4 (.mv (.c (.int .i64 (-1))))])
 (.ret)))
def cy127:List (Nat×An):=[(3,.cells ⟨some .Stt,[some ((.int .i64),.no),some (.str,.no)]⟩),(4,.t (.int .i64)),(5,.t (.int .i64)),(15,.t (.nm .Stt)),(16,.t (.nm .Stt))]
end Go.Fw
