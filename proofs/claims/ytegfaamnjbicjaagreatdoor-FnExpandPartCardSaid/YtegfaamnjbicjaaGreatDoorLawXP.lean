/- Proved: the tied card of the law FnExpandPart: it answers true for every input, and its argument reads behind the call as it read before. Its conditions: those of the statement: the variables that its row lists read as the program's own text lays them (the card's tie). -/
import Derived.Test.YtegfaamnjbicjaaGreatDoorRows
import Derived.Test.YtegfaamnjbicjaaGreatDoorCards
import Derived.Test.YtegfaamnjbicjaaGreatDoorTie
import Derived.ProofKit
import Derived.OpenShut
import Derived.Lay
import Derived.Lib.LaidTab
import Derived.Deep.DeepHandedRow
import Derived.SevenTiedAt
import Derived.Test.YtegfaamnjbicjaaGreatDoorM5
import Derived.Test.YtegfaamnjbicjaaGreatDoorM7
import Derived.Test.YtegfaamnjbicjaaGreatDoorM8
set_option linter.all false
namespace Go.Fw
open Go Go.Proofs Go.RowKit
theorem zAo(xs:List Int)(hb:∀x∈xs,0<=x/\x<=255):PS Tryz.prog 4 [.sl 1 (xs.map zzL)] (.bool true):=by obtain⟨r,h1,h2⟩:=zr6 hb;subst h2;have hk:PEok Tryz.prog zc1:=zjw;exact hk.ok xs true h1
section
variable {H:Type}{enc:TypeId×Value->H}{W:World}{sp:Nat->Bool}{held:Bool}
theorem zvE:Tryz.prog.cellsOf 5=1:=by kernel_rfl
theorem r32(fuel:Nat):zsW enc Tryz.prog W sp held fuel 32 (fun xs:List Int=>[.sl 1 (xs.map zzL)]):=by
 cases fuel with
 |zero=>exact zsg
 |succ n=>exact zp7 Tryz.underlying32 zvE (fun _=>rfl) (by decide) n (zwt Tryz.underlying5 n)
end
theorem zmE{W:World}{name:String}{g:Nat}{cs:Array Value}(hg:Tryz.prog.globalNamed name=some g)(hv:W.var? Tryz.prog name=some cs):∃e z,W.heap[g]? =some (.cells cs e z):=by
 unfold World.var? at hv;rw[hg,Option.bind_some]at hv;split at hv
 ·rename_i cs' e z h;cases hv;exact⟨e,z,h⟩
 ·cases hv
theorem zpl{w:World}{g:Nat}{v:Value}{cs:Array Value}{e:TypeId}{z:Nat×Nat}(h:w.heap[g]? =some (.cells cs e z))(hc:cs[0]? =some v):w.cell? ⟨g,0,none⟩=some v:=by unfold World.cell?;rw[h];simpa using hc
theorem zvD{P:Program}{w:World}{r:Reach}{base:Nat}{t:TypeId}{v:Value}{k:IntKind}(ht:P.underlying t=some (.int k))(h:Cell.ok P w r base t v):∃n,v=.int k n:=by
 unfold Cell.ok at h;rw[ht]at h;cases v with
 |int k' n=>obtain⟨rfl,_⟩:=h;exact⟨n,rfl⟩
 |_=>exact h.elim
theorem zsm{P:Program}{W:World}{g:Nat}{t:TypeId}(hS:W.ShapedOpen P)(hg:g<P.globals.size)(hr:((begin P (fun _ _=>0) default).world.heap[g]?).bind Obj.row? =some (#[.int .i64 0],t))(hb:P.buildable t=true)(hts:P.cellTypes P.depth t=some [t])
 (hu:P.underlying t=some (.int .i64)):∃cs e z m,W.heap[g]? =some (.cells cs e z)/\cs[0]? =some (.int .i64 m):=by
 obtain⟨cs0,h0,hz0,hr0⟩:=hS.1 g _ _ hg hr;obtain⟨ts,hts',_,hc0⟩:=hr0 hb;obtain rfl:=Option.some.inj (hts.symm.trans hts');have hsz:cs0.size=1:=hz0;obtain⟨v,hv⟩:∃v,cs0[0]? =some v:=⟨cs0[0],Array.getElem?_eq_getElem (by omega)⟩
 obtain⟨u,hu',hk⟩:=hc0 0 v hv;obtain rfl:=Option.some.inj hu';obtain⟨n,rfl⟩:=zvD hu hk;exact⟨cs0,_,_,n,h0,hv⟩
theorem zeT{W w:World}(hw:∀b o,zek W b=some o->w.heap[b]? =some o){g:Nat}{o:Obj}(h:W.heap[g]? =some o):w.heap[g]? =some o:=hw g o (by unfold zek;exact h)
theorem zBM{w:World}{m:Int}{l:List Int}{cs:Array Value}{e:TypeId}{z:Nat×Nat}{t t':TypeId}{p p':Value}(hl:l=Lib.pow10Tab)(hc:cs=(l.map fun z=>Value.int .u64 z).toArray)(h0:w.cell? ⟨0,0,none⟩=some (.int .i64 m))(h2:w.heap[3]? =some (.cells cs e z))
 (h4:w.cell? ⟨4,0,none⟩=some (.iface t p))(h5:w.cell? ⟨5,0,none⟩=some (.iface t' p')):GW w:=by
 subst hl;subst hc;exact⟨⟨m,h0⟩,⟨e,z,h2⟩,⟨t,p,h4⟩,t',p',h5⟩
end Go.Fw
namespace Go.Proofs.YtegfaamnjbicjaaGreatDoor
open Go.ChangeShapes Go.WideShapes Go.ChangeAt Go.RowKit
theorem Tryz.own:ownKnob Tryz.prog.godebug=none:=by kernel_rfl
theorem Tryz.laidOut:laidOutB Tryz.prog=true:=by kernel_rfl
theorem Tryz.gl0:Tryz.prog.globals.size=8:=by kernel_rfl
theorem Tryz.row0:((begin Tryz.prog (fun _ _=>0) default).world.heap[0]?).bind Obj.row? =some (#[.int .i64 0],3):=by kernel_rfl
theorem Tryz.build0:Tryz.prog.buildable 3=true:=by kernel_rfl
theorem Tryz.types0:Tryz.prog.cellTypes Tryz.prog.depth 3=some [3]:=by kernel_rfl
theorem Tryz.g3:Tryz.prog.globalNamed "internal/strconv.uint64pow10" =some 3:=by kernel_rfl
theorem Tryz.g4:Tryz.prog.globalNamed "strconv.ErrSyntax" =some 4:=by kernel_rfl
theorem Tryz.g5:Tryz.prog.globalNamed "strconv.ErrRange" =some 5:=by kernel_rfl
theorem Tryz.t3:(Tryz.prog.globals[3]?).map (·.type)=some 193:=by kernel_rfl
theorem Tryz.t4:(Tryz.prog.globals[4]?).map (·.type)=some 149:=by kernel_rfl
theorem Tryz.t5:(Tryz.prog.globals[5]?).map (·.type)=some 149:=by kernel_rfl
theorem zBP{W:World}(h:laidMetH Tryz.prog Rows.fnExpandPartRow.laid W)(hS:W.ShapedOpen Tryz.prog):Go.Fw.GH (Go.Fw.zek W):=by
 rw[MakeChecks.laidMetH_plain _ _ _ (by kernel_rfl)]at h;obtain⟨ps,⟨_,_,_,_,_,_,_,_,_,_,⟨_,_,_,_,_,_,_,_,_,_,⟨g2,t2,cs2,f2,p2,q2,hg2,ht2,hv2,hd2,⟨_,_,_,_,_,_,_,_,_,_,⟨g5,t5,cs5,f5,p5,q5,hg5,ht5,hv5,hd5,⟨g4,t4,cs4,f4,p4,q4,hg4,ht4,hv4,hd4,_⟩,_⟩,_⟩,_⟩,_⟩,_⟩,_,_⟩:=h;obtain rfl:=Option.some.inj (Tryz.g3.symm.trans hg2);obtain rfl:=Option.some.inj (Tryz.t3.symm.trans ht2);obtain rfl:=Option.some.inj (Tryz.g4.symm.trans hg4);obtain rfl:=Option.some.inj (Tryz.t4.symm.trans ht4);obtain rfl:=Option.some.inj (Tryz.g5.symm.trans hg5);obtain rfl:=Option.some.inj (Tryz.t5.symm.trans ht5);have e2:cs2.toList=Lib.pow10Tab.map fun z=>Value.int .u64 z:=Lib.cells_of_tab (e:=175) (n:=20) Tryz.underlying193 Tryz.underlying175 (by kernel_rfl) (by kernel_rfl) hd2;obtain⟨_,u4,v4,e4,_,_⟩:=iface_of_trod Tryz.underlying149 hd4;obtain⟨_,u5,v5,e5,_,_⟩:=iface_of_trod Tryz.underlying149 hd5;obtain⟨z2,y2,h2⟩:=Go.Fw.zmE Tryz.g3 hv2;obtain⟨z4,y4,h4⟩:=Go.Fw.zmE Tryz.g4 hv4;obtain⟨z5,y5,h5⟩:=Go.Fw.zmE Tryz.g5 hv5;obtain⟨cs0,_,_,m,h0,hm⟩:=Go.Fw.zsm hS (by rw[Tryz.gl0];decide) Tryz.row0 Tryz.build0 Tryz.types0 Tryz.underlying3;intro w hw;have hh0:=Go.Fw.zeT hw h0;refine Go.Fw.zBM (l:=Lib.pow10Tab) rfl ?_ (Go.Fw.zpl hh0 hm) (Go.Fw.zeT hw h2) (Go.Fw.zpl (v:=.iface u4 v4) (Go.Fw.zeT hw h4) ?_) (Go.Fw.zpl (v:=.iface u5 v5) (Go.Fw.zeT hw h5) ?_)
 ·rw[<-e2]
 ·rw[<-Array.getElem?_toList,e4];rfl
 ·rw[<-Array.getElem?_toList,e5];rfl
theorem znj{H:Type}{enc:TypeId×Value->H}{P:Program}{f:Func}{s:ChangeSpec}{apart fresh handsOn again:Bool}{W W':World}{args:Array Value}{v:Value}{ds gs:List (DataW H)}{before pa pv:List MemPlace}
 (hW:DataW.Whole enc P f.params.toList s.vars apart W args.toList ds gs before)(hb:Below W.heap.size W W')
 (hres:∀(b:Nat)(sp:Nat->Bool)(hd:Bool),DataW.TrodAll enc P W' b sp hd f.resultTypes.toList (v.resultList f.resultTypes.size) (s.fn H (ds++gs)).results [])
 (hargs:∀sp:Nat->Bool,(∀p∈before,sp p.block=true)->DataW.TrodAll enc P W' 0 sp true f.params.toList args.toList (s.fn H (ds++gs)).args pa)
 (hvars:∀sp:Nat->Bool,(∀p∈before,sp p.block=true)->DataW.TrodVars enc P W' sp s.vars (s.fn H (ds++gs)).vars pv)
 (hps:before=pa++pv)
 (hok:∀(j:Nat)(t:TypeId)(r:Value),f.resultTypes[j]? =some t->(v.resultList f.resultTypes.size)[j]? =some r->Value.okWide P W' .any 0 t r):
 s.post enc P f apart fresh handsOn again W args v W':=by
 have hlt:∀p∈before,p.block<W.heap.size:=fun p hp=>hW.lt p hp;have hold:∀p∈before,(fun b=>decide (b<W.heap.size)) p.block=true:=fun p hp=>by simpa using hlt p hp
 have hk:W.keptBut W' (·∈before):=hb.frame _;refine⟨ds,gs,before,[],pa,pv,hW,hres _ _ _,hargs _ hold,hvars _ hold,World.keptBut_mono (fun p hp=>⟨hp,?_⟩) hk,fun _=>?_⟩
 ·rw[hps,List.mem_append]at hp;exact Or.inr hp
 ·obtain⟨_,_,_,_,_,hz,hn⟩:=hW;refine⟨hok,_,_,([]++pa)++pv,⟨[]++pa,pv,trodAll_append (hargs _ (fun _ _=>rfl)) (hres _ _ _),hvars _ (fun _ _=>rfl),rfl,?_,?_⟩,?_⟩
  ·intro b off hp;have hp':MemPlace.cell b off∈before:=by rw[hps];simpa using hp
   rw[hb.frozen (hlt _ hp')];exact hz b off hp'
  ·intro ha;have:=hn ha;rw[hps]at this;simpa using this
  ·intro p hp _;rw[hps];simpa using hp
set_option maxRecDepth 100000 in
theorem f_lifted(os:Os)(started:os.Started)(H:Type)(enc:TypeId×Value->H)(F:Stop.Interp):
 ReturnsInHanded {} Tryz.checked os 4 .any ((OpenSpec.ofChange Rows.fnExpandPartSpec).preRow enc Tryz.prog Tryz.f4 Rows.fnExpandPartRow.domain false Rows.fnExpandPartRow.laid) (((OpenSpec.ofChange Rows.fnExpandPartSpec).at F).post enc Tryz.prog Tryz.f4 false true false false):=by
 refine returnsInHanded_of_row (C:=Tryz.checked) (s:=OpenSpec.ofChange Rows.fnExpandPartSpec) Tryz.own started (by kernel_rfl) Tryz.func4
  (ChangeSpec.witness_shaped (enc:=enc) (C:=Tryz.checked) (os:=os) (s:=Rows.fnExpandPartSpec) (X:=fun w _=>laidMetH Tryz.prog Rows.fnExpandPartRow.laid w) false (World.laidAll Tryz.prog os Rows.fnExpandPartRow.laid) #[.slice none 0 0] 8 (World.laidAll_os _ _ _)
   (World.shaped_of_ZipB (by kernel_rfl) (by kernel_rfl)) (by kernel_rfl) (by kernel_rfl) (by kernel_rfl)
   (by rw[MakeChecks.laidMetH_plain _ _ _ (by kernel_rfl)];exact laidMet_laidAll _ (by kernel_rfl) (by kernel_rfl))) ?_
 intro W base args ds gs before hval0 hW _ _ _ hL hS _;have hW':=hW;obtain⟨p,q,hA0,hV,rfl,hfz,hnd⟩:=hW;have hA:DataW.TrodAll enc Tryz.prog W 0 (fun _=>true) true Tryz.f4.params.toList args.toList ds p:=hA0;rw[Tryz.params4]at hA;obtain⟨v0,d0,rfl,rfl,h0⟩:=trodAll_one hA;obtain⟨rfl,rfl⟩:=trodVars_none hV;obtain⟨fuel,hr⟩:=h0;obtain⟨xs,hx⟩:=Go.Fw.r32 fuel _ _ _ hr;have hrep:Go.Fw.Rep (Go.Fw.zek W) [] (.sl 1 (xs.map Go.Fw.zzL)) v0:=by obtain⟨a,len,cap,rfl⟩:=okWide_slice Tryz.underlying32 (hval0 0 32 v0 rfl rfl);exact hx.2.2 0 _ _ rfl rfl
 refine((Go.Fw.zAo xs (Go.Fw.zuv hrep)).calls W (zBP hL hS) #[v0] rfl (fun i v x h1 h2=>?_)).mono fun e W' ⟨v,he,hb,H',hv⟩=>?_
 ·cases i with
  |zero=>simp at h1 h2;subst h1;subst h2;exact hrep
  |succ i=>simp at h1
 subst he;cases hv;simp only[List.append_nil]at hW';have hin:DataW.Trod enc Tryz.prog W 0 (fun _=>true) true 32 v0 d0 p:=⟨fuel,hr⟩
 exact⟨_,rfl,znj (pa:=p) (pv:=[]) hW' hb (fun _ _ _=>trodAll_mk1 (shut_bool Tryz.underlying4 true))
  (fun sp hsp=>trodAll_mk1 (WideElems.Trod_stays Tryz.laidOut (by kernel_rfl) (of_decide_eq_true (by kernel_rfl)) hin (fun x hx=>hb.same (hW'.lt x hx)) (fun x hx=>hsp x hx)))
  (fun _ _=>rfl) (by simp) (ok_one (by kernel_rfl) rfl (okWide_bool_mk Tryz.underlying4 true))⟩
theorem zz7:Rows.FnExpandPartSaid:=
 OpenClaim.holds_of_cond 4 Tryz.f4 rfl rfl rfl rfl rfl rfl rfl ⟨rfl,rfl,rfl,rfl,rfl⟩ rfl rfl rfl rfl rfl (by kernel_rfl) Tryz.func4 (by kernel_rfl)
  (of_decide_eq_true (by kernel_rfl)) (by unfold Func.isWrapper;first|(rw[if_pos (by decide +kernel)];kernel_rfl)|(rw[if_neg (by decide +kernel)];exact⟨rfl,rfl⟩))
  (fun os started H enc _ F=>by rw[OpenClaim.pre_eq_preRow];exact f_lifted os started H enc F)
theorem zyb(f:FuncId)(fn:Func)(hf:Tryz.pinned.checked.prog.funcNamed "loop.example/portolan/laws.FnExpandPart" =some f)(hfn:Tryz.pinned.checked.prog.funcs[f]? =some fn):
 true=Tryz.pinned.checked.prog.looks []/\∀(j:Nat) t,fn.params[j]? =some t->Tryz.pinned.checked.prog.wantsStandIn t=false:=by
 obtain rfl:f=4:=Option.some.inj ((show Tryz.prog.funcNamed "loop.example/portolan/laws.FnExpandPart" =some 4 by kernel_rfl).symm.trans hf) |>.symm;obtain rfl:fn=Tryz.f4:=(Option.some.inj (Tryz.func4.symm.trans hfn)).symm;refine⟨by kernel_rfl,fun j t ht=>?_⟩;rw[Tryz.params4]at ht;obtain rfl:t=32:=by simpa using Array.mem_of_getElem? ht
 exact(show Tryz.prog.wantsStandIn 32=false by kernel_rfl)
theorem f_holds:Rows.FnExpandPartCardSaid:=
 Claim7.holds_tied_plain_at .later [] _ _ _ _ zz7 (fun _ h=>by cases h) (by kernel_rfl) (fun _ h=>by cases h) fnExpandPart_row_tie rfl ⟨rfl,rfl⟩ (by kernel_rfl) rfl zyb (by kernel_rfl)
end Go.Proofs.YtegfaamnjbicjaaGreatDoor
