/- Proved: the law FnExactChartSafe answers true for every input, and its arguments read behind the call as they read before. No condition but those of the statement. -/
import Derived.Test.YtokndaldhjmdeaaGreatRows
import Derived.ProofKit
import Derived.Test.YtokndaldhjmdeaaGreatM4
import Derived.Test.YtokndaldhjmdeaaGreatM6
import Derived.Test.YtokndaldhjmdeaaGreatM7
set_option linter.all false
namespace Go.Fw
open Go Go.Proofs Go.RowKit
theorem zHq(o n:List Part)(ho:KL BIG o)(hn:KL BIG n):PS Tryz.prog 5 [.sl 2 (o.map zcO),.sl 2 (n.map zcO)] (.bool true):=by
 have hk:PEok Tryz.prog zgg:=zlp
 exact hk.ok (o,n) true (zxP ho hn)
theorem zyd{H:Hp}{α:Type}{e:α->List AV}{es:Nat}{xs:List α}{v:Value}(h:Rep H [] (.sl es (xs.map e)) v):xs.length<=BIG/\∀x∈xs,∀(j:Nat)(c:AV),(e x)[j]? =some c->∃w,Rep H [] c w:=by
 cases h with
 | sl b o cells f hlen hcap hbig hes hblk hc hcell hh =>
  refine⟨by rw[hlen,List.length_map]at hbig;exact hbig,fun x hx j c hj=>?_⟩
  obtain⟨i,hi,rfl⟩:=List.getElem_of_mem hx
  exact⟨_,hh i (e xs[i]) j c (by simp[hi]) hj⟩
theorem zlj{H:Hp}{s:Str}{v:Value}(h:Rep H [] (.str s) v):s.length<=BIG:=by
 cases h with
 | str h=>exact h
theorem zHJ{H:Hp}{xs:List Str}{v:Value}(h:Rep H [] (.sl 1 (xs.map zmI)) v):KS BIG xs:=by
 obtain⟨h1,h2⟩:=zyd h
 refine⟨h1,fun s hs=>?_⟩
 obtain⟨w,hw⟩:=h2 s hs 0 _ rfl
 exact zlj hw
theorem zFf{H:Hp}{xs:List Field}{v:Value}(h:Rep H [] (.sl 8 (xs.map zcP)) v):xs.length<=BIG/\∀f∈xs,KF BIG f:=by
 obtain⟨h1,h2⟩:=zyd h
 refine⟨h1,fun f hf=>?_⟩
 obtain⟨w0,h0⟩:=h2 f hf 0 _ rfl
 obtain⟨w1,g1⟩:=h2 f hf 1 _ rfl
 obtain⟨w7,g7⟩:=h2 f hf 7 _ rfl
 exact⟨zlj h0,zlj g1,zHJ g7⟩
theorem zFg{H:Hp}{xs:List Typ}{v:Value}(h:Rep H [] (.sl 3 (xs.map zhA)) v):xs.length<=BIG/\∀t∈xs,KT BIG t:=by
 obtain⟨h1,h2⟩:=zyd h
 refine⟨h1,fun t ht=>?_⟩
 obtain⟨w0,h0⟩:=h2 t ht 0 _ rfl
 obtain⟨w1,g1⟩:=h2 t ht 1 _ rfl
 obtain⟨w2,g2⟩:=h2 t ht 2 _ rfl
 exact⟨zlj h0,zlj g1,zFf g2⟩
theorem zDR{H:Hp}{xs:List Part}{v:Value}(h:Rep H [] (.sl 2 (xs.map zcO)) v):KL BIG xs:=by
 obtain⟨h1,h2⟩:=zyd h
 refine⟨h1,fun p hp=>?_⟩
 obtain⟨w0,h0⟩:=h2 p hp 0 _ rfl
 obtain⟨w1,g1⟩:=h2 p hp 1 _ rfl
 exact⟨zlj h0,zFg g1⟩
section
variable {H:Type}{enc:TypeId×Value->H}{W:World}{sp:Nat->Bool}{held:Bool}
theorem zGh:Tryz.prog.cellsOf 4=1:=by kernel_rfl
theorem zxl:Tryz.prog.cellsOf 9=1:=by kernel_rfl
theorem zEc:Tryz.prog.cellsOf 26=1:=by kernel_rfl
theorem zEd:Tryz.prog.cellsOf 69=1:=by kernel_rfl
theorem zCf:Tryz.prog.cellsOf 148=1:=by kernel_rfl
theorem zzZ:Tryz.prog.cellsOf 71=2:=by kernel_rfl
theorem zxj:Tryz.prog.cellsOf 150=3:=by kernel_rfl
theorem zxk:Tryz.prog.cellsOf 183=8:=by kernel_rfl
theorem r26(fuel:Nat):znO enc Tryz.prog W sp held fuel 26 (fun xs:List Str=>[.sl 1 (xs.map zmI)]):=by
 cases fuel with
 | zero=>exact zfk
 | succ n=>exact zi9 Tryz.underlying26 zxl (fun _=>rfl) (by decide) n (ziz Tryz.underlying9 n)
theorem zMU(fuel:Nat):znO enc Tryz.prog W sp held fuel 183 zcP:=by
 cases fuel with
 | zero=>exact zfk
 | succ n =>
  refine zkN Tryz.underlying183 n fun cs hl hf=>?_
  rw[zxk]at hl
  obtain⟨d0,p0,h0⟩:=hf 0 _ rfl
  obtain⟨d1,p1,h1⟩:=hf 1 _ rfl
  obtain⟨d2,p2,h2⟩:=hf 2 _ rfl
  obtain⟨d3,p3,h3⟩:=hf 3 _ rfl
  obtain⟨d4,p4,h4⟩:=hf 4 _ rfl
  obtain⟨d5,p5,h5⟩:=hf 5 _ rfl
  obtain⟨d6,p6,h6⟩:=hf 6 _ rfl
  obtain⟨d7,p7,h7⟩:=hf 7 _ rfl
  change DataW.trod enc Tryz.prog W 0 sp held n 9 ((cs.drop 0).take (Tryz.prog.cellsOf 9))=_ at h0
  change DataW.trod enc Tryz.prog W 0 sp held n 9 ((cs.drop 1).take (Tryz.prog.cellsOf 9))=_ at h1
  change DataW.trod enc Tryz.prog W 0 sp held n 4 ((cs.drop 2).take (Tryz.prog.cellsOf 4))=_ at h2
  change DataW.trod enc Tryz.prog W 0 sp held n 4 ((cs.drop 3).take (Tryz.prog.cellsOf 4))=_ at h3
  change DataW.trod enc Tryz.prog W 0 sp held n 4 ((cs.drop 4).take (Tryz.prog.cellsOf 4))=_ at h4
  change DataW.trod enc Tryz.prog W 0 sp held n 4 ((cs.drop 5).take (Tryz.prog.cellsOf 4))=_ at h5
  change DataW.trod enc Tryz.prog W 0 sp held n 4 ((cs.drop 6).take (Tryz.prog.cellsOf 4))=_ at h6
  change DataW.trod enc Tryz.prog W 0 sp held n 26 ((cs.drop 7).take (Tryz.prog.cellsOf 26))=_ at h7
  rw[zxl]at h0 h1;rw[zGh]at h2 h3 h4 h5 h6;rw[zEc]at h7
  obtain⟨x0,c0⟩:=ziz Tryz.underlying9 n _ _ _ h0
  obtain⟨x1,c1⟩:=ziz Tryz.underlying9 n _ _ _ h1
  obtain⟨x2,c2⟩:=ziy Tryz.underlying4 n _ _ _ h2
  obtain⟨x3,c3⟩:=ziy Tryz.underlying4 n _ _ _ h3
  obtain⟨x4,c4⟩:=ziy Tryz.underlying4 n _ _ _ h4
  obtain⟨x5,c5⟩:=ziy Tryz.underlying4 n _ _ _ h5
  obtain⟨x6,c6⟩:=ziy Tryz.underlying4 n _ _ _ h6
  obtain⟨x7,c7⟩:=r26 n _ _ _ h7
  refine⟨⟨x0,x1,x2,x3,x4,x5,x6,x7⟩,?_⟩
  have:=zl1.all (W:=W) (cs:=cs) [zmI x0,zmI x1,[.bool x2],[.bool x3],[.bool x4],[.bool x5],[.bool x6],[.sl 1 (x7.map zmI)]] 0 ⟨c0,c1,c2,c3,c4,c5,c6,c7,trivial⟩ (by simpa[zmI]using hl)
  simpa[zcP,zmI]using this
theorem zMS(fuel:Nat):znO enc Tryz.prog W sp held fuel 148 (fun xs:List Field=>[.sl 8 (xs.map zcP)]):=by
 cases fuel with
 | zero=>exact zfk
 | succ n=>exact zi9 Tryz.underlying148 zxk (fun _=>rfl) (by decide) n (zMU n)
theorem zMT(fuel:Nat):znO enc Tryz.prog W sp held fuel 150 zhA:=by
 cases fuel with
 | zero=>exact zfk
 | succ n =>
  refine zkN Tryz.underlying150 n fun cs hl hf=>?_
  rw[zxj]at hl
  obtain⟨d0,p0,h0⟩:=hf 0 _ rfl
  obtain⟨d1,p1,h1⟩:=hf 1 _ rfl
  obtain⟨d2,p2,h2⟩:=hf 2 _ rfl
  change DataW.trod enc Tryz.prog W 0 sp held n 9 ((cs.drop 0).take (Tryz.prog.cellsOf 9))=_ at h0
  change DataW.trod enc Tryz.prog W 0 sp held n 9 ((cs.drop 1).take (Tryz.prog.cellsOf 9))=_ at h1
  change DataW.trod enc Tryz.prog W 0 sp held n 148 ((cs.drop 2).take (Tryz.prog.cellsOf 148))=_ at h2
  rw[zxl]at h0 h1;rw[zCf]at h2
  obtain⟨x0,c0⟩:=ziz Tryz.underlying9 n _ _ _ h0
  obtain⟨x1,c1⟩:=ziz Tryz.underlying9 n _ _ _ h1
  obtain⟨x2,c2⟩:=zMS n _ _ _ h2
  refine⟨⟨x0,x1,x2⟩,?_⟩
  have:=zl1.all (W:=W) (cs:=cs) [zmI x0,zmI x1,[.sl 8 (x2.map zcP)]] 0 ⟨c0,c1,c2,trivial⟩ (by simpa[zmI]using hl)
  simpa[zhA,zmI]using this
theorem r69(fuel:Nat):znO enc Tryz.prog W sp held fuel 69 (fun xs:List Typ=>[.sl 3 (xs.map zhA)]):=by
 cases fuel with
 | zero=>exact zfk
 | succ n=>exact zi9 Tryz.underlying69 zxj (fun _=>rfl) (by decide) n (zMT n)
theorem r71(fuel:Nat):znO enc Tryz.prog W sp held fuel 71 zcO:=by
 cases fuel with
 | zero=>exact zfk
 | succ n =>
  refine zkN Tryz.underlying71 n fun cs hl hf=>?_
  rw[zzZ]at hl
  obtain⟨d0,p0,h0⟩:=hf 0 _ rfl
  obtain⟨d1,p1,h1⟩:=hf 1 _ rfl
  change DataW.trod enc Tryz.prog W 0 sp held n 9 ((cs.drop 0).take (Tryz.prog.cellsOf 9))=_ at h0
  change DataW.trod enc Tryz.prog W 0 sp held n 69 ((cs.drop 1).take (Tryz.prog.cellsOf 69))=_ at h1
  rw[zxl]at h0;rw[zEd]at h1
  obtain⟨x0,c0⟩:=ziz Tryz.underlying9 n _ _ _ h0
  obtain⟨x1,c1⟩:=r69 n _ _ _ h1
  refine⟨⟨x0,x1⟩,?_⟩
  have:=zl1.all (W:=W) (cs:=cs) [zmI x0,[.sl 3 (x1.map zhA)]] 0 ⟨c0,c1,trivial⟩ (by simpa[zmI]using hl)
  simpa[zcO,zmI]using this
theorem r41(fuel:Nat):znO enc Tryz.prog W sp held fuel 41 (fun xs:List Part=>[.sl 2 (xs.map zcO)]):=by
 cases fuel with
 | zero=>exact zfk
 | succ n=>exact zi9 Tryz.underlying41 zzZ (fun _=>rfl) (by decide) n (r71 n)
end
end Go.Fw
namespace Go.Proofs.YtokndaldhjmdeaaGreat
open Go.ChangeShapes Go.WideShapes Go.ChangeAt Go.RowKit
theorem Tryz.own:ownKnob Tryz.prog.godebug=none:=by kernel_rfl
theorem Tryz.laidOut:laidOutB Tryz.prog=true:=by kernel_rfl
theorem ztd{H:Type}{enc:TypeId×Value->H}{P:Program}{f:Func}{s:ChangeSpec}{apart fresh handsOn again:Bool}{W W':World}{args:Array Value}{v:Value}{ds gs:List (DataW H)}{before pa pv:List MemPlace}
  (hW:DataW.Whole enc P f.params.toList s.vars apart W args.toList ds gs before)(hb:Below W.heap.size W W')
  (hres:∀(b:Nat)(sp:Nat->Bool)(hd:Bool),DataW.TrodAll enc P W' b sp hd f.resultTypes.toList (v.resultList f.resultTypes.size) (s.fn H (ds++gs)).results [])
  (hargs:∀sp:Nat->Bool,(∀p∈before,sp p.block=true)->DataW.TrodAll enc P W' 0 sp true f.params.toList args.toList (s.fn H (ds++gs)).args pa)
  (hvars:∀sp:Nat->Bool,(∀p∈before,sp p.block=true)->DataW.TrodVars enc P W' sp s.vars (s.fn H (ds++gs)).vars pv)
  (hps:before=pa++pv)
  (hok:∀(j:Nat)(t:TypeId)(r:Value),f.resultTypes[j]? =some t->(v.resultList f.resultTypes.size)[j]? =some r->Value.okWide P W' .any 0 t r):
  s.post enc P f apart fresh handsOn again W args v W':=by
 have hlt:∀p∈before,p.block<W.heap.size:=fun p hp=>hW.lt p hp
 have hold:∀p∈before,(fun b=>decide (b<W.heap.size)) p.block=true:=fun p hp=>by simpa using hlt p hp
 have hk:W.keptBut W' (·∈before):=hb.frame _
 refine⟨ds,gs,before,[],pa,pv,hW,hres _ _ _,hargs _ hold,hvars _ hold,World.keptBut_mono (fun p hp=>⟨hp,?_⟩) hk,fun _=>?_⟩
 ·rw[hps,List.mem_append]at hp
  exact Or.inr hp
 ·obtain⟨_,_,_,_,_,hz,hn⟩:=hW
  refine⟨hok,_,_,([]++pa)++pv,⟨[]++pa,pv,trodAll_append (hargs _ (fun _ _=>rfl)) (hres _ _ _),hvars _ (fun _ _=>rfl),rfl,?_,?_⟩,?_⟩
  ·intro b off hp
   have hp':MemPlace.cell b off∈before:=by rw[hps];simpa using hp
   rw[hb.frozen (hlt _ hp')]
   exact hz b off hp'
  ·intro ha
   have:=hn ha
   rw[hps]at this
   simpa using this
  ·intro p hp _
   rw[hps]
   simpa using hp
set_option maxRecDepth 100000 in
theorem f_lifted(os:Os)(started:os.Started)(H:Type)(enc:TypeId×Value->H):
  ReturnsInHanded {} Tryz.checked os 5 .any (Rows.fnExactChartSafeSpec.pre6 enc Tryz.prog Tryz.f5 Rows.fnExactChartSafeRow.domain false) (Rows.fnExactChartSafeSpec.post enc Tryz.prog Tryz.f5 false true false false):=by
 refine returnsInHanded_of_change (C:=Tryz.checked) Tryz.own started (by kernel_rfl) Tryz.func5
  (ChangeSpec.witness6 (enc:=enc) (C:=Tryz.checked) false ⟨#[],#[.slice none 0 0,.slice none 0 0],[]⟩ 8 (by kernel_rfl) (by kernel_rfl) (by kernel_rfl) (by kernel_rfl)) ?_
 intro W base args ds gs before hval0 hW hcnd _
 have hW':=hW
 obtain⟨p,q,hA0,hV,rfl,hfz,hnd⟩:=hW
 have hA:DataW.TrodAll enc Tryz.prog W 0 (fun _=>true) true Tryz.f5.params.toList args.toList ds p:=hA0
 rw[Tryz.params5]at hA
 obtain⟨v0,v1,d0,d1,p0,p1,rfl,rfl,rfl,h0,h1⟩:=trodAll_two hA
 obtain⟨rfl,rfl⟩:=trodVars_none hV
 obtain⟨fuel0,hr0⟩:=h0
 obtain⟨fuel1,hr1⟩:=h1
 obtain⟨xs,hx⟩:=Go.Fw.r41 fuel0 _ _ _ hr0
 obtain⟨ys,hy⟩:=Go.Fw.r41 fuel1 _ _ _ hr1
 have hrep0:Go.Fw.Rep (Go.Fw.zlT W) [] (.sl 2 (xs.map Go.Fw.zcO)) v0:=by
  obtain⟨a,len,cap,rfl⟩:=okWide_slice Tryz.underlying41 (hval0 0 41 v0 rfl rfl)
  exact hx.2.2 0 _ _ rfl rfl
 have hrep1:Go.Fw.Rep (Go.Fw.zlT W) [] (.sl 2 (ys.map Go.Fw.zcO)) v1:=by
  obtain⟨a,len,cap,rfl⟩:=okWide_slice Tryz.underlying41 (hval0 1 41 v1 rfl rfl)
  exact hy.2.2 0 _ _ rfl rfl
 refine((Go.Fw.zHq xs ys (Go.Fw.zDR hrep0) (Go.Fw.zDR hrep1)).calls W #[v0,v1] rfl (fun i v x h1 h2=>?_)).mono fun e W' ⟨v,he,hb,H',hv⟩=>?_
 ·cases i with
  | zero=>simp at h1 h2;subst h1;subst h2;exact hrep0
  | succ i =>
   cases i with
   | zero=>simp at h1 h2;subst h1;subst h2;exact hrep1
   | succ i=>simp at h1
 subst he
 cases hv
 simp only[List.append_nil]at hW'
 have hin0:DataW.Trod enc Tryz.prog W 0 (fun _=>true) true 41 v0 d0 p0:=⟨fuel0,hr0⟩
 have hin1:DataW.Trod enc Tryz.prog W 0 (fun _=>true) true 41 v1 d1 p1:=⟨fuel1,hr1⟩
 have hs0:=fun(sp:Nat->Bool)(hsp:∀x∈p0,sp x.block=true)=>WideElems.Trod_stays Tryz.laidOut (by kernel_rfl) (of_decide_eq_true (by kernel_rfl)) hin0 (fun x hx=>hb.same (hW'.lt x (List.mem_append_left _ hx))) hsp
 have hs1:=fun(sp:Nat->Bool)(hsp:∀x∈p1,sp x.block=true)=>WideElems.Trod_stays Tryz.laidOut (by kernel_rfl) (of_decide_eq_true (by kernel_rfl)) hin1 (fun x hx=>hb.same (hW'.lt x (List.mem_append_right _ hx))) hsp
 exact⟨_,rfl,ztd (pa:=p0++p1) (pv:=[]) hW' hb (fun _ _ _=>trodAll_mk1 (shut_bool Tryz.underlying4 true))
  (fun sp hsp=>trodAll_mk2 (hs0 sp fun x hx=>hsp x (List.mem_append_left _ hx)) (hs1 sp fun x hx=>hsp x (List.mem_append_right _ hx)))
  (fun _ _=>rfl) (by simp) (ok_one (by kernel_rfl) rfl (okWide_bool_mk Tryz.underlying4 true))⟩
theorem f_holds:Rows.FnExactChartSafeSaid:=
 OpenClaim.holds_of_wide 5 Tryz.f5 rfl rfl rfl rfl rfl rfl rfl ⟨rfl,rfl,rfl,rfl,rfl⟩ rfl rfl rfl rfl rfl (by kernel_rfl) Tryz.func5 (by kernel_rfl)
  (of_decide_eq_true (by kernel_rfl)) (by unfold Func.isWrapper;first|(rw[if_pos (by decide +kernel)];kernel_rfl)|(rw[if_neg (by decide +kernel)];exact⟨rfl,rfl⟩))
  (fun os started H enc _=>f_lifted os started H enc)
end Go.Proofs.YtokndaldhjmdeaaGreat
