/- Proved: the law FnExactRouteParts answers true for every input, and its argument reads behind the call as it read before. No condition but those of the statement. -/
import Derived.Test.YtokndaldhjmdeaaRows
import Derived.ProofKit
import Derived.Test.YtokndaldhjmdeaaM4
import Derived.Test.YtokndaldhjmdeaaM6
set_option linter.all false
namespace Go.Fw
open Go Go.Proofs Go.RowKit
theorem zr2(d:List Stp)(hd:KSt BIG d):PS Try.prog 3 [.sl 6 (d.map zcP)] (.bool true):=by
 have hk:PEok Try.prog zbM:=zdQ
 exact hk.ok d true (zlE hd)
theorem zl0{H:Hp}{α:Type}{e:α->List AV}{es:Nat}{xs:List α}{v:Value}(h:Rep H [] (.sl es (xs.map e)) v):xs.length<=BIG/\∀x∈xs,∀(j:Nat)(c:AV),(e x)[j]? =some c->∃w,Rep H [] c w:=by
 cases h with
 | sl b o cells f hlen hcap hbig hes hblk hc hcell hh =>
  refine⟨by rw[hlen,List.length_map]at hbig;exact hbig,fun x hx j c hj=>?_⟩
  obtain⟨i,hi,rfl⟩:=List.getElem_of_mem hx
  exact⟨_,hh i (e xs[i]) j c (by simp[hi]) hj⟩
theorem zgy{H:Hp}{s:Str}{v:Value}(h:Rep H [] (.str s) v):s.length<=BIG:=by
 cases h with
 | str h=>exact h
theorem zqe{H:Hp}{xs:List Str}{v:Value}(h:Rep H [] (.sl 1 (xs.map zfO)) v):KS BIG xs:=by
 obtain⟨h1,h2⟩:=zl0 h
 refine⟨h1,fun s hs=>?_⟩
 obtain⟨w,hw⟩:=h2 s hs 0 _ rfl
 exact zgy hw
theorem zsm{H:Hp}{xs:List Int}{v:Value}(h:Rep H [] (.sl 1 (xs.map zcn)) v):KI BIG xs:=(zl0 h).1
theorem zor{H:Hp}:∀(n:Nat)(xs:List Sel)(v:Value),SizeOf.sizeOf xs<=n->Rep H [] (.sl 5 (xs.map zcg)) v->KSels BIG xs:=by
 intro n
 induction n with
 | zero=>exact fun xs v h=>by cases xs<;>simp at h
 | succ n ih =>
  intro xs v hn h
  obtain⟨h1,h2⟩:=zl0 h
  refine⟨h1,fun x hx=>?_⟩
  have e:=zbt x
  obtain⟨w0,g0⟩:=h2 x hx 0 _ (by rw[e];rfl)
  obtain⟨w1,g1⟩:=h2 x hx 1 _ (by rw[e];rfl)
  obtain⟨w4,g4⟩:=h2 x hx 4 _ (by rw[e];rfl)
  have hs:=Sel.sz x
  have hm:=zhi hx
  obtain⟨q1,q2⟩:=ih x.kids w4 (by omega) g4
  exact .mk (zgy g0) (zgy g1) q1 q2
theorem zrc{H:Hp}{xs:List Stp}{v:Value}(h:Rep H [] (.sl 6 (xs.map zcP)) v):KSt BIG xs:=by
 obtain⟨h1,h2⟩:=zl0 h
 refine⟨h1,fun p hp=>?_⟩
 obtain⟨w1,g1⟩:=h2 p hp 1 _ rfl
 obtain⟨w2,g2⟩:=h2 p hp 2 _ rfl
 obtain⟨w3,g3⟩:=h2 p hp 3 _ rfl
 obtain⟨w4,g4⟩:=h2 p hp 4 _ rfl
 obtain⟨w5,g5⟩:=h2 p hp 5 _ rfl
 exact⟨zqe g1,zgy g2,zor _ _ _ (Nat.le_refl _) g3,zsm g4,zqe g5⟩
section
variable {H:Type}{enc:TypeId×Value->H}{W:World}{sp:Nat->Bool}{held:Bool}
theorem znk:Try.prog.cellsOf 3=1:=by kernel_rfl
theorem zrS:Try.prog.cellsOf 4=1:=by kernel_rfl
theorem znn:Try.prog.cellsOf 9=1:=by kernel_rfl
theorem zqs:Try.prog.cellsOf 24=1:=by kernel_rfl
theorem zqt:Try.prog.cellsOf 34=1:=by kernel_rfl
theorem znl:Try.prog.cellsOf 35=1:=by kernel_rfl
theorem znm:Try.prog.cellsOf 37=6:=by kernel_rfl
theorem zkk:Try.prog.cellsOf 61=5:=by kernel_rfl
theorem r34(fuel:Nat):ze4 enc Try.prog W sp held fuel 34 (fun xs:List Str=>[.sl 1 (xs.map zfO)]):=by
 cases fuel with
 | zero=>exact zb5
 | succ n=>exact zcj Try.underlying34 znn (fun _=>rfl) (by decide) n (zfs Try.underlying9 n)
theorem r24(fuel:Nat):ze4 enc Try.prog W sp held fuel 24 (fun xs:List Int=>[.sl 1 (xs.map zcn)]):=by
 cases fuel with
 | zero=>exact zb5
 | succ n=>exact zcj Try.underlying24 znk (fun _=>rfl) (by decide) n (zhd Try.underlying3 n)
theorem zsl(n:Nat)(hk:ze4 enc Try.prog W sp held n 35 (fun xs:List Sel=>[.sl 5 (xs.map zcg)])):ze4 enc Try.prog W sp held (n+1) 61 zcg:=by
 refine zgq Try.underlying61 n fun cs hl hf=>?_
 rw[zkk]at hl
 obtain⟨d0,p0,h0⟩:=hf 0 _ rfl
 obtain⟨d1,p1,h1⟩:=hf 1 _ rfl
 obtain⟨d2,p2,h2⟩:=hf 2 _ rfl
 obtain⟨d3,p3,h3⟩:=hf 3 _ rfl
 obtain⟨d4,p4,h4⟩:=hf 4 _ rfl
 change DataW.trod enc Try.prog W 0 sp held n 9 ((cs.drop 0).take (Try.prog.cellsOf 9))=_ at h0
 change DataW.trod enc Try.prog W 0 sp held n 9 ((cs.drop 1).take (Try.prog.cellsOf 9))=_ at h1
 change DataW.trod enc Try.prog W 0 sp held n 4 ((cs.drop 2).take (Try.prog.cellsOf 4))=_ at h2
 change DataW.trod enc Try.prog W 0 sp held n 3 ((cs.drop 3).take (Try.prog.cellsOf 3))=_ at h3
 change DataW.trod enc Try.prog W 0 sp held n 35 ((cs.drop 4).take (Try.prog.cellsOf 35))=_ at h4
 rw[znn]at h0 h1;rw[zrS]at h2;rw[znk]at h3;rw[znl]at h4
 obtain⟨x0,c0⟩:=zfs Try.underlying9 n _ _ _ h0
 obtain⟨x1,c1⟩:=zfs Try.underlying9 n _ _ _ h1
 obtain⟨x2,c2⟩:=zmF Try.underlying4 n _ _ _ h2
 obtain⟨x3,c3⟩:=zhd Try.underlying3 n _ _ _ h3
 obtain⟨x4,c4⟩:=hk _ _ _ h4
 refine⟨.mk x0 x1 x2 x3 x4,?_⟩
 have:=zfC.all (W:=W) (cs:=cs) [zfO x0,zfO x1,[.bool x2],zcn x3,[.sl 5 (x4.map zcg)]] 0 ⟨c0,c1,c2,c3,c4,trivial⟩ (by simpa[zfO,zcn]using hl)
 rw[zbt]
 simpa[zfO,zcn]using this
theorem r35:∀fuel:Nat,ze4 enc Try.prog W sp held fuel 35 (fun xs:List Sel=>[.sl 5 (xs.map zcg)])
 | 0=>zb5
 | 1=>zcj Try.underlying35 zkk (fun x=>by rw[zbt];rfl) (by decide) 0 zb5
 | n+2=>zcj Try.underlying35 zkk (fun x=>by rw[zbt];rfl) (by decide) (n+1) (zsl n (r35 n))
theorem r37(fuel:Nat):ze4 enc Try.prog W sp held fuel 37 zcP:=by
 cases fuel with
 | zero=>exact zb5
 | succ n =>
  refine zgq Try.underlying37 n fun cs hl hf=>?_
  rw[znm]at hl
  obtain⟨d0,p0,h0⟩:=hf 0 _ rfl
  obtain⟨d1,p1,h1⟩:=hf 1 _ rfl
  obtain⟨d2,p2,h2⟩:=hf 2 _ rfl
  obtain⟨d3,p3,h3⟩:=hf 3 _ rfl
  obtain⟨d4,p4,h4⟩:=hf 4 _ rfl
  obtain⟨d5,p5,h5⟩:=hf 5 _ rfl
  change DataW.trod enc Try.prog W 0 sp held n 3 ((cs.drop 0).take (Try.prog.cellsOf 3))=_ at h0
  change DataW.trod enc Try.prog W 0 sp held n 34 ((cs.drop 1).take (Try.prog.cellsOf 34))=_ at h1
  change DataW.trod enc Try.prog W 0 sp held n 9 ((cs.drop 2).take (Try.prog.cellsOf 9))=_ at h2
  change DataW.trod enc Try.prog W 0 sp held n 35 ((cs.drop 3).take (Try.prog.cellsOf 35))=_ at h3
  change DataW.trod enc Try.prog W 0 sp held n 24 ((cs.drop 4).take (Try.prog.cellsOf 24))=_ at h4
  change DataW.trod enc Try.prog W 0 sp held n 34 ((cs.drop 5).take (Try.prog.cellsOf 34))=_ at h5
  rw[znk]at h0;rw[zqt]at h1 h5;rw[znn]at h2;rw[znl]at h3;rw[zqs]at h4
  obtain⟨x0,c0⟩:=zhd Try.underlying3 n _ _ _ h0
  obtain⟨x1,c1⟩:=r34 n _ _ _ h1
  obtain⟨x2,c2⟩:=zfs Try.underlying9 n _ _ _ h2
  obtain⟨x3,c3⟩:=r35 n _ _ _ h3
  obtain⟨x4,c4⟩:=r24 n _ _ _ h4
  obtain⟨x5,c5⟩:=r34 n _ _ _ h5
  refine⟨⟨x0,x1,x2,x3,x4,x5⟩,?_⟩
  have:=zfC.all (W:=W) (cs:=cs) [zcn x0,[.sl 1 (x1.map zfO)],zfO x2,[.sl 5 (x3.map zcg)],[.sl 1 (x4.map zcn)],[.sl 1 (x5.map zfO)]] 0 ⟨c0,c1,c2,c3,c4,c5,trivial⟩ (by simpa[zfO,zcn]using hl)
  simpa[zcP,zfO,zcn]using this
theorem r22(fuel:Nat):ze4 enc Try.prog W sp held fuel 22 (fun xs:List Stp=>[.sl 6 (xs.map zcP)]):=by
 cases fuel with
 | zero=>exact zb5
 | succ n=>exact zcj Try.underlying22 znm (fun _=>rfl) (by decide) n (r37 n)
end
end Go.Fw
namespace Go.Proofs.Ytokndaldhjmdeaa
open Go.ChangeShapes Go.WideShapes Go.ChangeAt Go.RowKit
theorem Try.own:ownKnob Try.prog.godebug=none:=by kernel_rfl
theorem Try.laidOut:laidOutB Try.prog=true:=by kernel_rfl
theorem ziI{H:Type}{enc:TypeId×Value->H}{P:Program}{f:Func}{s:ChangeSpec}{apart fresh handsOn again:Bool}{W W':World}{args:Array Value}{v:Value}{ds gs:List (DataW H)}{before pa pv:List MemPlace}
  (hW:DataW.Whole enc P f.params.toList s.vars apart W args.toList ds gs before)(hb:Below W.heap.size W W')
  (hres:∀(b:Nat)(sp:Nat->Bool)(hd:Bool),DataW.TrodAll enc P W' b sp hd f.resultTypes.toList (v.resultList f.resultTypes.size) (s.fn H (ds++gs)).results [])
  (hargs:∀sp:Nat->Bool,(∀p∈before,sp p.block=true)->DataW.TrodAll enc P W' 0 sp true f.params.toList args.toList (s.fn H (ds++gs)).args pa)
  (hvars:∀sp:Nat->Bool,(∀p∈before,sp p.block=true)->DataW.TrodVars enc P W' sp s.vars (s.fn H (ds++gs)).vars pv)
  (hps:before=pa++pv)
  (hok:∀(j:Nat)(t:TypeId)(r:Value),f.resultTypes[j]? =some t->(v.resultList f.resultTypes.size)[j]? =some r->Value.okWide P W' .any 0 t r):
  s.post enc P f apart fresh handsOn again W args v W':=by
 have hlt:∀p∈before,p.block<W.heap.size:=fun p hp=>hW.lt p hp
 have hold:∀p∈before,(fun b=>decide (b<W.heap.size)) p.block=true:=fun p hp=>by simpa using hlt p hp
 have hk:W.keptBut W' (·∈before):=hb.frame _
 refine⟨ds,gs,before,[],pa,pv,hW,hres _ _ _,hargs _ hold,hvars _ hold,World.keptBut_mono (fun p hp=>⟨hp,?_⟩) hk,fun _=>?_⟩
 ·rw[hps,List.mem_append]at hp
  exact Or.inr hp
 ·obtain⟨_,_,_,_,_,hz,hn⟩:=hW
  refine⟨hok,_,_,([]++pa)++pv,⟨[]++pa,pv,trodAll_append (hargs _ (fun _ _=>rfl)) (hres _ _ _),hvars _ (fun _ _=>rfl),rfl,?_,?_⟩,?_⟩
  ·intro b off hp
   have hp':MemPlace.cell b off∈before:=by rw[hps];simpa using hp
   rw[hb.frozen (hlt _ hp')]
   exact hz b off hp'
  ·intro ha
   have:=hn ha
   rw[hps]at this
   simpa using this
  ·intro p hp _
   rw[hps]
   simpa using hp
set_option maxRecDepth 100000 in
theorem f_lifted(os:Os)(started:os.Started)(H:Type)(enc:TypeId×Value->H):
  ReturnsInHanded {} Try.checked os 3 .any (Rows.fnExactRoutePartsSpec.pre6 enc Try.prog Try.f3 Rows.fnExactRoutePartsRow.domain false) (Rows.fnExactRoutePartsSpec.post enc Try.prog Try.f3 false true false false):=by
 refine returnsInHanded_of_change (C:=Try.checked) Try.own started (by kernel_rfl) Try.func3
  (ChangeSpec.witness6 (enc:=enc) (C:=Try.checked) false ⟨#[],#[.slice none 0 0],[]⟩ 8 (by kernel_rfl) (by kernel_rfl) (by kernel_rfl) (by kernel_rfl)) ?_
 intro W base args ds gs before hval0 hW hcnd _
 have hW':=hW
 obtain⟨p,q,hA0,hV,rfl,hfz,hnd⟩:=hW
 have hA:DataW.TrodAll enc Try.prog W 0 (fun _=>true) true Try.f3.params.toList args.toList ds p:=hA0
 rw[Try.params3]at hA
 obtain⟨v0,d0,rfl,rfl,h0⟩:=trodAll_one hA
 obtain⟨rfl,rfl⟩:=trodVars_none hV
 obtain⟨fuel0,hr0⟩:=h0
 obtain⟨xs,hx⟩:=Go.Fw.r22 fuel0 _ _ _ hr0
 have hrep0:Go.Fw.Rep (Go.Fw.zfl W) [] (.sl 6 (xs.map Go.Fw.zcP)) v0:=by
  obtain⟨a,len,cap,rfl⟩:=okWide_slice Try.underlying22 (hval0 0 22 v0 rfl rfl)
  exact hx.2.2 0 _ _ rfl rfl
 refine((Go.Fw.zr2 xs (Go.Fw.zrc hrep0)).calls W #[v0] rfl (fun i v x h1 h2=>?_)).mono fun e W' ⟨v,he,hb,H',hv⟩=>?_
 ·cases i with
  | zero=>simp at h1 h2;subst h1;subst h2;exact hrep0
  | succ i=>simp at h1
 subst he
 cases hv
 simp only[List.append_nil]at hW'
 have hin0:DataW.Trod enc Try.prog W 0 (fun _=>true) true 22 v0 d0 p:=⟨fuel0,hr0⟩
 have hs0:=fun(sp:Nat->Bool)(hsp:∀x∈p,sp x.block=true)=>WideElems.Trod_stays Try.laidOut (by kernel_rfl) (of_decide_eq_true (by kernel_rfl)) hin0 (fun x hx=>hb.same (hW'.lt x hx)) hsp
 exact⟨_,rfl,ziI (pa:=p) (pv:=[]) hW' hb (fun _ _ _=>trodAll_mk1 (shut_bool Try.underlying4 true))
  (fun sp hsp=>trodAll_mk1 (hs0 sp hsp))
  (fun _ _=>rfl) (by simp) (ok_one (by kernel_rfl) rfl (okWide_bool_mk Try.underlying4 true))⟩
theorem f_holds:Rows.FnExactRoutePartsSaid:=
 OpenClaim.holds_of_wide 3 Try.f3 rfl rfl rfl rfl rfl rfl rfl ⟨rfl,rfl,rfl,rfl,rfl⟩ rfl rfl rfl rfl rfl (by kernel_rfl) Try.func3 (by kernel_rfl)
  (of_decide_eq_true (by kernel_rfl)) (by unfold Func.isWrapper;first|(rw[if_pos (by decide +kernel)];kernel_rfl)|(rw[if_neg (by decide +kernel)];exact⟨rfl,rfl⟩))
  (fun os started H enc _=>f_lifted os started H enc)
end Go.Proofs.Ytokndaldhjmdeaa
