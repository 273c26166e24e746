/- Proved: the law FnChartMoves answers true for every input, and its argument reads behind the call as it read before. No condition but those of the statement. -/
import Derived.Test.YtokndaldhjmdeaaGreatRows
import Derived.ProofKit
import Derived.Test.YtokndaldhjmdeaaGreatM4
import Derived.Test.YtokndaldhjmdeaaGreatM6
import Derived.Test.YtokndaldhjmdeaaGreatM7
set_option linter.all false
namespace Go.Fw
open Go Go.Proofs Go.RowKit
theorem zFU(xs:List Int)(hb:∀x∈xs,0<=x/\x<=255):PS Tryz.prog 3 [.sl 1 (xs.map zFc)] (.bool true):=by obtain⟨r,h1,h2⟩:=zBM hb;subst h2;have hk:PEok Tryz.prog zeU:=znP;exact hk.ok xs true h1
section
variable {H:Type}{enc:TypeId×Value->H}{W:World}{sp:Nat->Bool}{held:Bool}
theorem zBd:Tryz.prog.cellsOf 5=1:=by kernel_rfl
theorem r22(fuel:Nat):zys enc Tryz.prog W sp held fuel 22 (fun xs:List Int=>[.sl 1 (xs.map zFc)]):=by
 cases fuel with
 |zero=>exact zxK
 |succ n=>exact zvf Tryz.underlying22 zBd (fun _=>rfl) (by decide) n (zB4 Tryz.underlying5 n)
end
end Go.Fw
namespace Go.Proofs.YtokndaldhjmdeaaGreat
open Go.ChangeShapes Go.WideShapes Go.ChangeAt Go.RowKit
theorem Tryz.own:ownKnob Tryz.prog.godebug=none:=by kernel_rfl
theorem Tryz.laidOut:laidOutB Tryz.prog=true:=by kernel_rfl
theorem zsc{H:Type}{enc:TypeId×Value->H}{P:Program}{f:Func}{s:ChangeSpec}{apart fresh handsOn again:Bool}{W W':World}{args:Array Value}{v:Value}{ds gs:List (DataW H)}{before pa pv:List MemPlace}
 (hW:DataW.Whole enc P f.params.toList s.vars apart W args.toList ds gs before)(hb:Below W.heap.size W W')
 (hres:∀(b:Nat)(sp:Nat->Bool)(hd:Bool),DataW.TrodAll enc P W' b sp hd f.resultTypes.toList (v.resultList f.resultTypes.size) (s.fn H (ds++gs)).results [])
 (hargs:∀sp:Nat->Bool,(∀p∈before,sp p.block=true)->DataW.TrodAll enc P W' 0 sp true f.params.toList args.toList (s.fn H (ds++gs)).args pa)
 (hvars:∀sp:Nat->Bool,(∀p∈before,sp p.block=true)->DataW.TrodVars enc P W' sp s.vars (s.fn H (ds++gs)).vars pv)
 (hps:before=pa++pv)
 (hok:∀(j:Nat)(t:TypeId)(r:Value),f.resultTypes[j]? =some t->(v.resultList f.resultTypes.size)[j]? =some r->Value.okWide P W' .any 0 t r):
 s.post enc P f apart fresh handsOn again W args v W':=by
 have hlt:∀p∈before,p.block<W.heap.size:=fun p hp=>hW.lt p hp;have hold:∀p∈before,(fun b=>decide (b<W.heap.size)) p.block=true:=fun p hp=>by simpa using hlt p hp
 have hk:W.keptBut W' (·∈before):=hb.frame _;refine⟨ds,gs,before,[],pa,pv,hW,hres _ _ _,hargs _ hold,hvars _ hold,World.keptBut_mono (fun p hp=>⟨hp,?_⟩) hk,fun _=>?_⟩
 ·rw[hps,List.mem_append]at hp;exact Or.inr hp
 ·obtain⟨_,_,_,_,_,hz,hn⟩:=hW;refine⟨hok,_,_,([]++pa)++pv,⟨[]++pa,pv,trodAll_append (hargs _ (fun _ _=>rfl)) (hres _ _ _),hvars _ (fun _ _=>rfl),rfl,?_,?_⟩,?_⟩
  ·intro b off hp;have hp':MemPlace.cell b off∈before:=by rw[hps];simpa using hp
   rw[hb.frozen (hlt _ hp')];exact hz b off hp'
  ·intro ha;have:=hn ha;rw[hps]at this;simpa using this
  ·intro p hp _;rw[hps];simpa using hp
set_option maxRecDepth 100000 in
theorem f_lifted(os:Os)(started:os.Started)(H:Type)(enc:TypeId×Value->H):
 ReturnsInHanded {} Tryz.checked os 3 .any (Rows.fnChartMovesSpec.pre6 enc Tryz.prog Tryz.f3 Rows.fnChartMovesRow.domain false) (Rows.fnChartMovesSpec.post enc Tryz.prog Tryz.f3 false true false false):=by
 refine returnsInHanded_of_change (C:=Tryz.checked) Tryz.own started (by kernel_rfl) Tryz.func3
  (ChangeSpec.witness6 (enc:=enc) (C:=Tryz.checked) false ⟨#[],#[.slice none 0 0],[]⟩ 8 (by kernel_rfl) (by kernel_rfl) (by kernel_rfl) (by kernel_rfl)) ?_
 intro W base args ds gs before hval0 hW hcnd _;have hW':=hW;obtain⟨p,q,hA0,hV,rfl,hfz,hnd⟩:=hW;have hA:DataW.TrodAll enc Tryz.prog W 0 (fun _=>true) true Tryz.f3.params.toList args.toList ds p:=hA0;rw[Tryz.params3]at hA;obtain⟨v0,d0,rfl,rfl,h0⟩:=trodAll_one hA;obtain⟨rfl,rfl⟩:=trodVars_none hV;obtain⟨fuel,hr⟩:=h0;obtain⟨xs,hx⟩:=Go.Fw.r22 fuel _ _ _ hr;have hrep:Go.Fw.Rep (Go.Fw.zlS W) [] (.sl 1 (xs.map Go.Fw.zFc)) v0:=by obtain⟨a,len,cap,rfl⟩:=okWide_slice Tryz.underlying22 (hval0 0 22 v0 rfl rfl);exact hx.2.2 0 _ _ rfl rfl
 refine((Go.Fw.zFU xs (Go.Fw.zAf hrep)).calls W #[v0] rfl (fun i v x h1 h2=>?_)).mono fun e W' ⟨v,he,hb,H',hv⟩=>?_
 ·cases i with
  |zero=>simp at h1 h2;subst h1;subst h2;exact hrep
  |succ i=>simp at h1
 subst he;cases hv;simp only[List.append_nil]at hW';have hin:DataW.Trod enc Tryz.prog W 0 (fun _=>true) true 22 v0 d0 p:=⟨fuel,hr⟩
 exact⟨_,rfl,zsc (pa:=p) (pv:=[]) hW' hb (fun _ _ _=>trodAll_mk1 (shut_bool Tryz.underlying4 true))
  (fun sp hsp=>trodAll_mk1 (WideElems.Trod_stays Tryz.laidOut (by kernel_rfl) (of_decide_eq_true (by kernel_rfl)) hin (fun x hx=>hb.same (hW'.lt x hx)) (fun x hx=>hsp x hx)))
  (fun _ _=>rfl) (by simp) (ok_one (by kernel_rfl) rfl (okWide_bool_mk Tryz.underlying4 true))⟩
theorem f_holds:Rows.FnChartMovesSaid:=
 OpenClaim.holds_of_wide 3 Tryz.f3 rfl rfl rfl rfl rfl rfl rfl ⟨rfl,rfl,rfl,rfl,rfl⟩ rfl rfl rfl rfl rfl (by kernel_rfl) Tryz.func3 (by kernel_rfl)
  (of_decide_eq_true (by kernel_rfl)) (by unfold Func.isWrapper;first|(rw[if_pos (by decide +kernel)];kernel_rfl)|(rw[if_neg (by decide +kernel)];exact⟨rfl,rfl⟩))
  (fun os started H enc _=>f_lifted os started H enc)
end Go.Proofs.YtokndaldhjmdeaaGreat
