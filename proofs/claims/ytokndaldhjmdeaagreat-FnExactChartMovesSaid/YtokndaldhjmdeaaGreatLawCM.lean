/- Proved: the law FnExactChartMoves answers true for every input, and its arguments read behind the call as they read before. No condition but those of the statement. -/
import Derived.Test.YtokndaldhjmdeaaGreatRows
import Derived.ProofKit
import Derived.Test.YtokndaldhjmdeaaGreatM4
import Derived.Test.YtokndaldhjmdeaaGreatM6
import Derived.Test.YtokndaldhjmdeaaGreatM7
set_option linter.all false
namespace Go.Fw
open Go Go.Proofs Go.RowKit
theorem zGa(o n:List Part)(ho:KL BIG o)(hn:KL BIG n):PS Tryz.prog 4 [.sl 2 (o.map zcL),.sl 2 (n.map zcL)] (.bool true):=by
 have hk:PEok Tryz.prog zfF:=zj7
 exact hk.ok (o,n) true (zwP ho hn)
theorem zxe{H:Hp}{α:Type}{e:α->List AV}{es:Nat}{xs:List α}{v:Value}(h:Rep H [] (.sl es (xs.map e)) v):xs.length<=BIG/\∀x∈xs,∀(j:Nat)(c:AV),(e x)[j]? =some c->∃w,Rep H [] c w:=by
 cases h with
 | sl b o cells f hlen hcap hbig hes hblk hc hcell hh =>
  refine⟨by rw[hlen,List.length_map]at hbig;exact hbig,fun x hx j c hj=>?_⟩
  obtain⟨i,hi,rfl⟩:=List.getElem_of_mem hx
  exact⟨_,hh i (e xs[i]) j c (by simp[hi]) hj⟩
theorem zkK{H:Hp}{s:Str}{v:Value}(h:Rep H [] (.str s) v):s.length<=BIG:=by
 cases h with
 | str h=>exact h
theorem zGv{H:Hp}{xs:List Str}{v:Value}(h:Rep H [] (.sl 1 (xs.map zl3)) v):KS BIG xs:=by
 obtain⟨h1,h2⟩:=zxe h
 refine⟨h1,fun s hs=>?_⟩
 obtain⟨w,hw⟩:=h2 s hs 0 _ rfl
 exact zkK hw
theorem zEg{H:Hp}{xs:List Field}{v:Value}(h:Rep H [] (.sl 8 (xs.map zcM)) v):xs.length<=BIG/\∀f∈xs,KF BIG f:=by
 obtain⟨h1,h2⟩:=zxe h
 refine⟨h1,fun f hf=>?_⟩
 obtain⟨w0,h0⟩:=h2 f hf 0 _ rfl
 obtain⟨w1,g1⟩:=h2 f hf 1 _ rfl
 obtain⟨w7,g7⟩:=h2 f hf 7 _ rfl
 exact⟨zkK h0,zkK g1,zGv g7⟩
theorem zEh{H:Hp}{xs:List Typ}{v:Value}(h:Rep H [] (.sl 3 (xs.map zhh)) v):xs.length<=BIG/\∀t∈xs,KT BIG t:=by
 obtain⟨h1,h2⟩:=zxe h
 refine⟨h1,fun t ht=>?_⟩
 obtain⟨w0,h0⟩:=h2 t ht 0 _ rfl
 obtain⟨w1,g1⟩:=h2 t ht 1 _ rfl
 obtain⟨w2,g2⟩:=h2 t ht 2 _ rfl
 exact⟨zkK h0,zkK g1,zEg g2⟩
theorem zCR{H:Hp}{xs:List Part}{v:Value}(h:Rep H [] (.sl 2 (xs.map zcL)) v):KL BIG xs:=by
 obtain⟨h1,h2⟩:=zxe h
 refine⟨h1,fun p hp=>?_⟩
 obtain⟨w0,h0⟩:=h2 p hp 0 _ rfl
 obtain⟨w1,g1⟩:=h2 p hp 1 _ rfl
 exact⟨zkK h0,zEh g1⟩
section
variable {H:Type}{enc:TypeId×Value->H}{W:World}{sp:Nat->Bool}{held:Bool}
theorem zFe:Tryz.prog.cellsOf 4=1:=by kernel_rfl
theorem zwl:Tryz.prog.cellsOf 9=1:=by kernel_rfl
theorem zDe:Tryz.prog.cellsOf 26=1:=by kernel_rfl
theorem zDf:Tryz.prog.cellsOf 69=1:=by kernel_rfl
theorem zBh:Tryz.prog.cellsOf 148=1:=by kernel_rfl
theorem zy2:Tryz.prog.cellsOf 71=2:=by kernel_rfl
theorem zwj:Tryz.prog.cellsOf 150=3:=by kernel_rfl
theorem zwk:Tryz.prog.cellsOf 183=8:=by kernel_rfl
theorem r26(fuel:Nat):zm9 enc Tryz.prog W sp held fuel 26 (fun xs:List Str=>[.sl 1 (xs.map zl3)]):=by
 cases fuel with
 | zero=>exact ze8
 | succ n=>exact ziN Tryz.underlying26 zwl (fun _=>rfl) (by decide) n (zid Tryz.underlying9 n)
theorem zLl(fuel:Nat):zm9 enc Tryz.prog W sp held fuel 183 zcM:=by
 cases fuel with
 | zero=>exact ze8
 | succ n =>
  refine zkg Tryz.underlying183 n fun cs hl hf=>?_
  rw[zwk]at hl
  obtain⟨d0,p0,h0⟩:=hf 0 _ rfl
  obtain⟨d1,p1,h1⟩:=hf 1 _ rfl
  obtain⟨d2,p2,h2⟩:=hf 2 _ rfl
  obtain⟨d3,p3,h3⟩:=hf 3 _ rfl
  obtain⟨d4,p4,h4⟩:=hf 4 _ rfl
  obtain⟨d5,p5,h5⟩:=hf 5 _ rfl
  obtain⟨d6,p6,h6⟩:=hf 6 _ rfl
  obtain⟨d7,p7,h7⟩:=hf 7 _ rfl
  change DataW.trod enc Tryz.prog W 0 sp held n 9 ((cs.drop 0).take (Tryz.prog.cellsOf 9))=_ at h0
  change DataW.trod enc Tryz.prog W 0 sp held n 9 ((cs.drop 1).take (Tryz.prog.cellsOf 9))=_ at h1
  change DataW.trod enc Tryz.prog W 0 sp held n 4 ((cs.drop 2).take (Tryz.prog.cellsOf 4))=_ at h2
  change DataW.trod enc Tryz.prog W 0 sp held n 4 ((cs.drop 3).take (Tryz.prog.cellsOf 4))=_ at h3
  change DataW.trod enc Tryz.prog W 0 sp held n 4 ((cs.drop 4).take (Tryz.prog.cellsOf 4))=_ at h4
  change DataW.trod enc Tryz.prog W 0 sp held n 4 ((cs.drop 5).take (Tryz.prog.cellsOf 4))=_ at h5
  change DataW.trod enc Tryz.prog W 0 sp held n 4 ((cs.drop 6).take (Tryz.prog.cellsOf 4))=_ at h6
  change DataW.trod enc Tryz.prog W 0 sp held n 26 ((cs.drop 7).take (Tryz.prog.cellsOf 26))=_ at h7
  rw[zwl]at h0 h1;rw[zFe]at h2 h3 h4 h5 h6;rw[zDe]at h7
  obtain⟨x0,c0⟩:=zid Tryz.underlying9 n _ _ _ h0
  obtain⟨x1,c1⟩:=zid Tryz.underlying9 n _ _ _ h1
  obtain⟨x2,c2⟩:=zic Tryz.underlying4 n _ _ _ h2
  obtain⟨x3,c3⟩:=zic Tryz.underlying4 n _ _ _ h3
  obtain⟨x4,c4⟩:=zic Tryz.underlying4 n _ _ _ h4
  obtain⟨x5,c5⟩:=zic Tryz.underlying4 n _ _ _ h5
  obtain⟨x6,c6⟩:=zic Tryz.underlying4 n _ _ _ h6
  obtain⟨x7,c7⟩:=r26 n _ _ _ h7
  refine⟨⟨x0,x1,x2,x3,x4,x5,x6,x7⟩,?_⟩
  have:=zlo.all (W:=W) (cs:=cs) [zl3 x0,zl3 x1,[.bool x2],[.bool x3],[.bool x4],[.bool x5],[.bool x6],[.sl 1 (x7.map zl3)]] 0 ⟨c0,c1,c2,c3,c4,c5,c6,c7,trivial⟩ (by simpa[zl3]using hl)
  simpa[zcM,zl3]using this
theorem zLj(fuel:Nat):zm9 enc Tryz.prog W sp held fuel 148 (fun xs:List Field=>[.sl 8 (xs.map zcM)]):=by
 cases fuel with
 | zero=>exact ze8
 | succ n=>exact ziN Tryz.underlying148 zwk (fun _=>rfl) (by decide) n (zLl n)
theorem zLk(fuel:Nat):zm9 enc Tryz.prog W sp held fuel 150 zhh:=by
 cases fuel with
 | zero=>exact ze8
 | succ n =>
  refine zkg Tryz.underlying150 n fun cs hl hf=>?_
  rw[zwj]at hl
  obtain⟨d0,p0,h0⟩:=hf 0 _ rfl
  obtain⟨d1,p1,h1⟩:=hf 1 _ rfl
  obtain⟨d2,p2,h2⟩:=hf 2 _ rfl
  change DataW.trod enc Tryz.prog W 0 sp held n 9 ((cs.drop 0).take (Tryz.prog.cellsOf 9))=_ at h0
  change DataW.trod enc Tryz.prog W 0 sp held n 9 ((cs.drop 1).take (Tryz.prog.cellsOf 9))=_ at h1
  change DataW.trod enc Tryz.prog W 0 sp held n 148 ((cs.drop 2).take (Tryz.prog.cellsOf 148))=_ at h2
  rw[zwl]at h0 h1;rw[zBh]at h2
  obtain⟨x0,c0⟩:=zid Tryz.underlying9 n _ _ _ h0
  obtain⟨x1,c1⟩:=zid Tryz.underlying9 n _ _ _ h1
  obtain⟨x2,c2⟩:=zLj n _ _ _ h2
  refine⟨⟨x0,x1,x2⟩,?_⟩
  have:=zlo.all (W:=W) (cs:=cs) [zl3 x0,zl3 x1,[.sl 8 (x2.map zcM)]] 0 ⟨c0,c1,c2,trivial⟩ (by simpa[zl3]using hl)
  simpa[zhh,zl3]using this
theorem r69(fuel:Nat):zm9 enc Tryz.prog W sp held fuel 69 (fun xs:List Typ=>[.sl 3 (xs.map zhh)]):=by
 cases fuel with
 | zero=>exact ze8
 | succ n=>exact ziN Tryz.underlying69 zwj (fun _=>rfl) (by decide) n (zLk n)
theorem r71(fuel:Nat):zm9 enc Tryz.prog W sp held fuel 71 zcL:=by
 cases fuel with
 | zero=>exact ze8
 | succ n =>
  refine zkg Tryz.underlying71 n fun cs hl hf=>?_
  rw[zy2]at hl
  obtain⟨d0,p0,h0⟩:=hf 0 _ rfl
  obtain⟨d1,p1,h1⟩:=hf 1 _ rfl
  change DataW.trod enc Tryz.prog W 0 sp held n 9 ((cs.drop 0).take (Tryz.prog.cellsOf 9))=_ at h0
  change DataW.trod enc Tryz.prog W 0 sp held n 69 ((cs.drop 1).take (Tryz.prog.cellsOf 69))=_ at h1
  rw[zwl]at h0;rw[zDf]at h1
  obtain⟨x0,c0⟩:=zid Tryz.underlying9 n _ _ _ h0
  obtain⟨x1,c1⟩:=r69 n _ _ _ h1
  refine⟨⟨x0,x1⟩,?_⟩
  have:=zlo.all (W:=W) (cs:=cs) [zl3 x0,[.sl 3 (x1.map zhh)]] 0 ⟨c0,c1,trivial⟩ (by simpa[zl3]using hl)
  simpa[zcL,zl3]using this
theorem r41(fuel:Nat):zm9 enc Tryz.prog W sp held fuel 41 (fun xs:List Part=>[.sl 2 (xs.map zcL)]):=by
 cases fuel with
 | zero=>exact ze8
 | succ n=>exact ziN Tryz.underlying41 zy2 (fun _=>rfl) (by decide) n (r71 n)
end
end Go.Fw
namespace Go.Proofs.YtokndaldhjmdeaaGreat
open Go.ChangeShapes Go.WideShapes Go.ChangeAt Go.RowKit
theorem Tryz.own:ownKnob Tryz.prog.godebug=none:=by kernel_rfl
theorem Tryz.laidOut:laidOutB Tryz.prog=true:=by kernel_rfl
theorem zsl{H:Type}{enc:TypeId×Value->H}{P:Program}{f:Func}{s:ChangeSpec}{apart fresh handsOn again:Bool}{W W':World}{args:Array Value}{v:Value}{ds gs:List (DataW H)}{before pa pv:List MemPlace}
  (hW:DataW.Whole enc P f.params.toList s.vars apart W args.toList ds gs before)(hb:Below W.heap.size W W')
  (hres:∀(b:Nat)(sp:Nat->Bool)(hd:Bool),DataW.TrodAll enc P W' b sp hd f.resultTypes.toList (v.resultList f.resultTypes.size) (s.fn H (ds++gs)).results [])
  (hargs:∀sp:Nat->Bool,(∀p∈before,sp p.block=true)->DataW.TrodAll enc P W' 0 sp true f.params.toList args.toList (s.fn H (ds++gs)).args pa)
  (hvars:∀sp:Nat->Bool,(∀p∈before,sp p.block=true)->DataW.TrodVars enc P W' sp s.vars (s.fn H (ds++gs)).vars pv)
  (hps:before=pa++pv)
  (hok:∀(j:Nat)(t:TypeId)(r:Value),f.resultTypes[j]? =some t->(v.resultList f.resultTypes.size)[j]? =some r->Value.okWide P W' .any 0 t r):
  s.post enc P f apart fresh handsOn again W args v W':=by
 have hlt:∀p∈before,p.block<W.heap.size:=fun p hp=>hW.lt p hp
 have hold:∀p∈before,(fun b=>decide (b<W.heap.size)) p.block=true:=fun p hp=>by simpa using hlt p hp
 have hk:W.keptBut W' (·∈before):=hb.frame _
 refine⟨ds,gs,before,[],pa,pv,hW,hres _ _ _,hargs _ hold,hvars _ hold,World.keptBut_mono (fun p hp=>⟨hp,?_⟩) hk,fun _=>?_⟩
 ·rw[hps,List.mem_append]at hp
  exact Or.inr hp
 ·obtain⟨_,_,_,_,_,hz,hn⟩:=hW
  refine⟨hok,_,_,([]++pa)++pv,⟨[]++pa,pv,trodAll_append (hargs _ (fun _ _=>rfl)) (hres _ _ _),hvars _ (fun _ _=>rfl),rfl,?_,?_⟩,?_⟩
  ·intro b off hp
   have hp':MemPlace.cell b off∈before:=by rw[hps];simpa using hp
   rw[hb.frozen (hlt _ hp')]
   exact hz b off hp'
  ·intro ha
   have:=hn ha
   rw[hps]at this
   simpa using this
  ·intro p hp _
   rw[hps]
   simpa using hp
set_option maxRecDepth 100000 in
theorem f_lifted(os:Os)(started:os.Started)(H:Type)(enc:TypeId×Value->H):
  ReturnsInHanded {} Tryz.checked os 4 .any (Rows.fnExactChartMovesSpec.pre6 enc Tryz.prog Tryz.f4 Rows.fnExactChartMovesRow.domain false) (Rows.fnExactChartMovesSpec.post enc Tryz.prog Tryz.f4 false true false false):=by
 refine returnsInHanded_of_change (C:=Tryz.checked) Tryz.own started (by kernel_rfl) Tryz.func4
  (ChangeSpec.witness6 (enc:=enc) (C:=Tryz.checked) false ⟨#[],#[.slice none 0 0,.slice none 0 0],[]⟩ 8 (by kernel_rfl) (by kernel_rfl) (by kernel_rfl) (by kernel_rfl)) ?_
 intro W base args ds gs before hval0 hW hcnd _
 have hW':=hW
 obtain⟨p,q,hA0,hV,rfl,hfz,hnd⟩:=hW
 have hA:DataW.TrodAll enc Tryz.prog W 0 (fun _=>true) true Tryz.f4.params.toList args.toList ds p:=hA0
 rw[Tryz.params4]at hA
 obtain⟨v0,v1,d0,d1,p0,p1,rfl,rfl,rfl,h0,h1⟩:=trodAll_two hA
 obtain⟨rfl,rfl⟩:=trodVars_none hV
 obtain⟨fuel0,hr0⟩:=h0
 obtain⟨fuel1,hr1⟩:=h1
 obtain⟨xs,hx⟩:=Go.Fw.r41 fuel0 _ _ _ hr0
 obtain⟨ys,hy⟩:=Go.Fw.r41 fuel1 _ _ _ hr1
 have hrep0:Go.Fw.Rep (Go.Fw.zlg W) [] (.sl 2 (xs.map Go.Fw.zcL)) v0:=by
  obtain⟨a,len,cap,rfl⟩:=okWide_slice Tryz.underlying41 (hval0 0 41 v0 rfl rfl)
  exact hx.2.2 0 _ _ rfl rfl
 have hrep1:Go.Fw.Rep (Go.Fw.zlg W) [] (.sl 2 (ys.map Go.Fw.zcL)) v1:=by
  obtain⟨a,len,cap,rfl⟩:=okWide_slice Tryz.underlying41 (hval0 1 41 v1 rfl rfl)
  exact hy.2.2 0 _ _ rfl rfl
 refine((Go.Fw.zGa xs ys (Go.Fw.zCR hrep0) (Go.Fw.zCR hrep1)).calls W #[v0,v1] rfl (fun i v x h1 h2=>?_)).mono fun e W' ⟨v,he,hb,H',hv⟩=>?_
 ·cases i with
  | zero=>simp at h1 h2;subst h1;subst h2;exact hrep0
  | succ i =>
   cases i with
   | zero=>simp at h1 h2;subst h1;subst h2;exact hrep1
   | succ i=>simp at h1
 subst he
 cases hv
 simp only[List.append_nil]at hW'
 have hin0:DataW.Trod enc Tryz.prog W 0 (fun _=>true) true 41 v0 d0 p0:=⟨fuel0,hr0⟩
 have hin1:DataW.Trod enc Tryz.prog W 0 (fun _=>true) true 41 v1 d1 p1:=⟨fuel1,hr1⟩
 have hs0:=fun(sp:Nat->Bool)(hsp:∀x∈p0,sp x.block=true)=>WideElems.Trod_stays Tryz.laidOut (by kernel_rfl) (of_decide_eq_true (by kernel_rfl)) hin0 (fun x hx=>hb.same (hW'.lt x (List.mem_append_left _ hx))) hsp
 have hs1:=fun(sp:Nat->Bool)(hsp:∀x∈p1,sp x.block=true)=>WideElems.Trod_stays Tryz.laidOut (by kernel_rfl) (of_decide_eq_true (by kernel_rfl)) hin1 (fun x hx=>hb.same (hW'.lt x (List.mem_append_right _ hx))) hsp
 exact⟨_,rfl,zsl (pa:=p0++p1) (pv:=[]) hW' hb (fun _ _ _=>trodAll_mk1 (shut_bool Tryz.underlying4 true))
  (fun sp hsp=>trodAll_mk2 (hs0 sp fun x hx=>hsp x (List.mem_append_left _ hx)) (hs1 sp fun x hx=>hsp x (List.mem_append_right _ hx)))
  (fun _ _=>rfl) (by simp) (ok_one (by kernel_rfl) rfl (okWide_bool_mk Tryz.underlying4 true))⟩
theorem f_holds:Rows.FnExactChartMovesSaid:=
 OpenClaim.holds_of_wide 4 Tryz.f4 rfl rfl rfl rfl rfl rfl rfl ⟨rfl,rfl,rfl,rfl,rfl⟩ rfl rfl rfl rfl rfl (by kernel_rfl) Tryz.func4 (by kernel_rfl)
  (of_decide_eq_true (by kernel_rfl)) (by unfold Func.isWrapper;first|(rw[if_pos (by decide +kernel)];kernel_rfl)|(rw[if_neg (by decide +kernel)];exact⟨rfl,rfl⟩))
  (fun os started H enc _=>f_lifted os started H enc)
end Go.Proofs.YtokndaldhjmdeaaGreat
