/- A part of the proof: what stands for the program, its functions, and what they come to. -/
import Derived.Test.YtgeocbndmfcjgaaM7
set_option linter.all false
namespace Go.Fw
open Go
def SelD:Nat→List Sel→Prop
 | 0,l=>l=[]
 | k+1,l=>l.length≤3∧∀ s∈l,s.name.length≤100∧s.as.length≤100∧0≤s.id∧s.id≤1000000∧SelD k s.kids
theorem SelD.nil:∀ k,SelD k []
 | 0=>rfl
 | k+1=>⟨by simp,fun s hs=>by cases hs⟩
theorem SelD.len {k:Nat}{l:List Sel}(h:SelD k l):l.length≤3:=by
 cases k with
 | zero=>rw [h]; simp
 | succ k=>exact h.1
theorem SelD.get {k:Nat}{l:List Sel}(h:SelD k l){s:Sel}(hs:s∈l):∃ j,k=j+1∧s.name.length≤100∧s.as.length≤100∧0≤s.id∧s.id≤1000000∧SelD j s.kids:=by
 cases k with
 | zero=>rw [h] at hs; cases hs
 | succ k=>exact ⟨k,rfl,h.2 s hs⟩
theorem key3_wp {s:Sel}{Q:List UInt8→Prop}(h:Q (if s.as=[] then s.name else s.as)):wp (F_l3Key s) Q:=by
 rw [F_l3Key_eq]; unfold B_l3Key
 simp only [wa,wb,wc,wd,we,vw,vx,vv,vy,vz,vb,vc,vd,vu,ve,vf,vg,vh,vi,vj,vk,vl,vm,vn,vo,vp]
 exact ⟨fun e=>by simpa [e] using h,fun e=>by simpa [e] using h⟩
structure Dr (p:Part):Prop where
 sm:SmP 200 p
 pos:∀ t∈p.types,1≤t.fields.length
abbrev STup:=(List Int×Int)×List Sel×List UInt8×List UInt8×Bool×Int×List Sel
structure SelT (l:List Sel)(k M:Nat)(d:STup):Prop where
 rd:Rd d.1.1 d.1.2 M
 out:d.2.1=l
 asx:d.2.2.1.length≤100
 name:d.2.2.2.1.length≤100
 id0:0≤d.2.2.2.2.2.1
 id1:d.2.2.2.2.2.1≤1000000
 kids:SelD k d.2.2.2.2.2.2
theorem sels_wpn {p:Part}(hp:Dr p):∀ (k:Nat)(dp:Int)(nm:List UInt8)(b:List Int)(q:Int)(m:Nat){Q:List Sel×List Int×Int→Prop},k≤5→6 - (k:Int)≤dp→dp≤6→Rd b q m→m+20 * 4 ^ k≤1000000000000 →
  (∀ l b' q',SelD k l→Rd b' q' (m+20 * 4 ^ k)→Q (l,b',q'))→wp (F_l11Sels (k+1) (p,nm,dp,b,q)) Q:=by
 have hL:LIM=1099511627776:=rfl
 have hpt:=hp.sm.types
 intro k
 induction k with
 | zero =>
  intro dp nm b q m Q hk hd1 hd2 hR hm h
  rw [F_l11Sels]
  dsimp only
  rw [wb]
  refine type_wp (by omega) fun r hr=>?_
  refine wp_cut (fun x=>x=true) ?_ fun x hx=>?_
  ·simp only [wa,wb,wc,wd,we,vw,vx,vv,vy,vz,vb,vc,vd,vu,ve,vf,vg,vh,vi,vj,vk,vl,vm,vn,vo,vp,vq,and_self]
   omega
  ·rw [hx,wc,wd]
   exact ⟨fun _=>h _ _ _ rfl (hR.up (by omega)),fun e=>by cases e⟩
 | succ k ih =>
  intro dp nm b q m Q hk hd1 hd2 hR hm h
  have h4:4 ^ (k+1)=4 * 4 ^ k:=by rw [Nat.pow_succ]; omega
  have h4a:4 ^ k≤256:=by
   have:4 ^ k≤4 ^ 4:=Nat.pow_le_pow_right (by omega) (by omega)
   omega
  have h4b:1≤4 ^ k:=Nat.one_le_pow _ _ (by omega)
  generalize hC:4 ^ k=C at ih h4 h4a h4b
  rw [F_l11Sels]
  dsimp only
  rw [wb]
  refine type_wp (by omega) fun r hr=>?_
  refine wp_cut (fun x=>x=false→0≤r∧dp≤5) ?_ fun x hx=>?_
  ·simp only [wa,wb,wc,wd,we,vw,vx,vv,vy,vz,vb,vc,vd,vu,ve,vf,vg,vh,vi,vj,vk,vl,vm,vn,vo,vp,vq,and_self]
   omega
  rw [wc,wd]
  refine ⟨fun _=>h _ _ _ (.nil _) (hR.up (by omega)),fun hxf=>?_⟩
  obtain ⟨hr0,hd5⟩:=hx hxf
  have hri:=(hr.at hr0).1
  rw [wa,wb,we]
  refine ⟨by simpa using hr0,hri,?_⟩
  have hT:=hp.sm.type _ (List.getElem_mem hri)
  have hTp:=hp.pos _ (List.getElem_mem hri)
  change SmT 200 (p.types[r.toNat]'hri) at hT
  generalize p.types[r.toNat]'hri=T at hT hTp
  have hTf:=hT.fields
  rw [wb]
  refine pick_wp hR (by omega) fun v hv _ hR1=>?_
  have hv:=hv (by omega)
  rw [wa]
  refine ⟨i64B_of (by omega) (by omega),?_⟩
  rw [wb]
  refine wp_loop (fun s:Int×(List Int×Int)×List Sel=>0≤s.1∧s.1≤3∧s.2.2.length+s.1.toNat≤3∧Rd s.2.1.1 s.2.1.2 (m+1+(3 - s.1.toNat) * (6+20 * C))∧∀ x∈s.2.2,x.name.length≤100∧x.as.length≤100∧0≤x.id∧x.id≤1000000∧SelD k x.kids) (fun s=>s.1.toNat)
   ⟨by dsimp only; omega,by dsimp only; omega,by simp; omega,hR1.up (by omega),by simp⟩ fun s ⟨i1,i2,i3,i4,i5⟩=>?_
  have hstep:0<s.1→m+1+(3 - s.1.toNat) * (6+20 * C)+(6+20 * C)=m+1+(3 - (s.1 - 1).toNat) * (6+20 * C):=fun h0=>by
   have e:3 - (s.1 - 1).toNat=(3 - s.1.toNat)+1:=by omega
   rw [e,Nat.add_mul]; omega
  have hbig:(3 - s.1.toNat) * (6+20 * C)≤3 * (6+20 * 256):=Nat.mul_le_mul (by omega) (by omega)
  have hend2:(3 - (s.1 - 1).toNat) * (6+20 * C)≤3 * (6+20 * C):=Nat.mul_le_mul (by omega) (by omega)
  have hend:(3 - s.1.toNat) * (6+20 * C)≤3 * (6+20 * C):=Nat.mul_le_mul (by omega) (by omega)
  generalize hM:m+1+(3 - s.1.toNat) * (6+20 * C)=M at i4 hstep
  generalize hM2:m+1+(3 - (s.1 - 1).toNat) * (6+20 * C)=M2 at hstep
  rw [wc]
  simp only [vc,vd]
  refine ⟨fun hlt=>?_,fun hge=>?_⟩
  ·have hstep:=hstep hlt
   have none:∀ (b':List Int)(q':Int)(l:List Sel),Rd b' q' M2→l=s.2.2→wp (gd (i64B (s.1 - 1)) (some (Sum.inl (s.1 - 1,(b',q'),l):(Int×(List Int×Int)×List Sel) ⊕ (Int×(List Int×Int)×List Sel)))) fun x=>(∀ s',x=.inl s'→(0≤s'.1∧s'.1≤3∧s'.2.2.length+s'.1.toNat≤3∧Rd s'.2.1.1 s'.2.1.2 (m+1+(3 - s'.1.toNat) * (6+20 * C))∧∀ x∈s'.2.2,x.name.length≤100∧x.as.length≤100∧0≤x.id∧x.id≤1000000∧SelD k x.kids)∧s'.1.toNat<s.1.toNat) ∧
     (∀ r,x=.inr r→wp (some (r.2.2,r.2.1.1,r.2.1.2)) Q):=fun b' q' l hr' hl=>by
    subst hl
    simp only [wa,wb,wc,wd,we,vw,vx,vv,vy,vz,vb,vc,vd,vu,ve,vf,vg,vh,vi,vj,vk,vl,vm,vn,vo,vp]
    exact ⟨by omega,⟨by omega,by omega,by omega,by rw [hM2]; exact hr',i5⟩,by omega⟩
   rw [wb]
   refine pick_wp i4 (by omega) fun w hw _ hR2=>?_
   have hw:=hw (by omega)
   rw [wa,wb,we]
   refine ⟨by simpa using hw.1,by omega,?_⟩
   have hf:=hT.field (T.fields[w.toNat]'(by omega)) (List.getElem_mem _)
   generalize T.fields[w.toNat]'(by omega)=f at hf
   rw [wb]
   refine pick_wp hR2 (by omega) fun z _ _ hR3=>?_
   refine wp_cut (fun x:STup=>SelT s.2.2 k (M+3) x) ?_ fun x5 h5=>?_
   ·simp only [wa,wb,wc,wd,we,vw,vx,vv,vy,vz,vb,vc,vd,vu,ve,vf,vg,vh,vi,vj,vk,vl,vm,vn,vo,vp,vq,and_self]
    refine ⟨fun _=>of_wp hR3 (by omega) (by simp) fun o ho hR4=>⟨hR4,rfl,?_,hf.name,by dsimp only; omega,by dsimp only; omega,.nil _⟩,fun _=>⟨hR3.up (by omega),rfl,by simp,hf.name,by dsimp only; omega,by dsimp only; omega,.nil _⟩⟩
    have ho':∀ o∈([[97],[98],[99]]:List (List UInt8)),o.length≤100:=by decide
    exact ho' o ho
   rw [wb]
   refine scalar_wp ?_
   refine wp_cut (fun x:STup ⊕ _=>(∀ d,x=.inl d→SelT s.2.2 k (M+5+20 * C) d)∧(∀ r,x=.inr r→wp (some r) fun x=>(∀ s',x=.inl s'→(0≤s'.1∧s'.1≤3∧s'.2.2.length+s'.1.toNat≤3∧Rd s'.2.1.1 s'.2.1.2 (m+1+(3 - s'.1.toNat) * (6+20 * C))∧∀ x∈s'.2.2,x.name.length≤100∧x.as.length≤100∧0≤x.id∧x.id≤1000000∧SelD k x.kids)∧s'.1.toNat<s.1.toNat) ∧
     (∀ r,x=.inr r→wp (some (r.2.2,r.2.1.1,r.2.1.2)) Q))) ?_ fun x7 ⟨g1,g2⟩=>?_
   ·rw [wc]
    refine ⟨fun _=>?_,fun _=>?_⟩
    ·rw [wa]
     refine ⟨i64B_of (by omega) (by omega),?_⟩
     rw [wb]
     refine ih _ _ _ _ (M+3) (by omega) (by omega) (by omega) h5.rd (by omega) fun l b' q' hl hR7=>?_
     rw [wc]
     refine ⟨fun _=>?_,fun _=>?_⟩
     ·have hnn:=none b' q' x5.2.1 (hR7.up (by omega)) h5.out
      rw [wa] at hnn
      obtain ⟨n1,n2⟩:=hnn
      rw [wb,wa,wd,wd]
      refine ⟨n1,?_⟩
      refine ⟨fun d e=>(by cases e),fun r e=>?_⟩
      cases e
      exact n2
     ·refine wp_cut (fun x:Bool×STup=>SelT s.2.2 k (M+4+20 * C) x.2) ?_ fun x6 h6=>?_
      ·simp only [wa,wb,wc,wd,we,vw,vx,vv,vy,vz,vb,vc,vd,vu,ve,vf,vg,vh,vi,vj,vk,vl,vm,vn,vo,vp]
       have h5':SelT s.2.2 k (M+4+20 * C) ((b',q'),x5.2.1,x5.2.2.1,x5.2.2.2.1,x5.2.2.2.2.1,x5.2.2.2.2.2.1,l):=⟨hR7.up (by omega),h5.out,h5.asx,h5.name,h5.id0,h5.id1,hl⟩
       exact ⟨fun _=>⟨fun _=>pick_wp hR7 (by omega) fun _ _ _ h=>⟨h.up (by omega),h5.out,h5.asx,h5.name,h5.id0,h5.id1,hl⟩,fun _=>h5'⟩,fun _=>h5'⟩
      ·refine wp_cut (fun x:STup=>SelT s.2.2 k (M+5+20 * C) x) ?_ fun x8 h8=>?_
       ·simp only [wa,wb,wc,wd,we,vw,vx,vv,vy,vz,vb,vc,vd,vu,ve,vf,vg,vh,vi,vj,vk,vl,vm,vn,vo,vp]
        refine ⟨fun _=>pick_wp h6.rd (by omega) fun y hy _ h=>⟨h.up (by omega),h6.out,h6.asx,h6.name,(hy (by omega)).1,by have:=(hy (by omega)).2; dsimp only; omega,h6.kids⟩,fun _=>⟨h6.rd.up (by omega),h6.out,h6.asx,h6.name,h6.id0,h6.id1,h6.kids⟩⟩
       ·rw [wd]
        exact ⟨fun d e=>by cases e; exact ⟨h8.rd,h8.out,h8.asx,h8.name,h8.id0,h8.id1,h8.kids⟩,fun r e=>by cases e⟩
    ·rw [wd]
     exact ⟨fun d e=>by cases e; exact ⟨h5.rd.up (by omega),h5.out,h5.asx,h5.name,h5.id0,h5.id1,h5.kids⟩,fun r e=>by cases e⟩
   rw [vv]
   refine ⟨fun d e=>?_,fun r e=>g2 r e⟩
   have hd:=g1 d e
   refine wp_cut (fun x:Bool×STup=>SelT s.2.2 k (M+6+20 * C) x.2) ?_ fun x9 h9=>?_
   ·simp only [wa,wb,wc,wd,we,vw,vx,vv,vy,vz,vb,vc,vd,vu,ve,vf,vg,vh,vi,vj,vk,vl,vm,vn,vo,vp]
    exact ⟨fun _=>pick_wp hd.rd (by omega) fun _ _ _ h=>⟨h.up (by omega),hd.out,hd.asx,hd.name,hd.id0,hd.id1,hd.kids⟩,fun _=>⟨hd.rd.up (by omega),hd.out,hd.asx,hd.name,hd.id0,hd.id1,hd.kids⟩⟩
   rw [wc]
   refine ⟨fun _=>none _ _ _ (h9.rd.up (by omega)) h9.out,fun _=>?_⟩
   have h9l:x9.2.2.1.length≤3:=by rw [h9.out]; omega
   rw [wb]
   refine wp_loop (fun u:Bool×Int=>0≤u.2) (fun u=>x9.2.2.1.length - u.2.toNat) (by simp) fun u hu=>?_
   rw [wc]
   simp only [vc,vd]
   refine ⟨fun hlt2=>?_,fun _=>?_⟩
   ·simp only [wa,wb,wc,wd,we,vw,vx,vv,vy,vz,vb,vc,vd,vu,ve,vf,vg,vh,vi,vj,vk,vl,vm,vn,vo,vp]
    refine ⟨fun _=>⟨by omega,by omega,by omega⟩,fun _=>⟨⟨hu,hlt2⟩,by omega,key3_wp (key3_wp ⟨by omega,by omega,by omega⟩)⟩⟩
   ·simp only [wd,vz]
    refine wp_cut (fun _=>True) (by simp only [wa,wb,wc,wd,we,vw,vx,vv,vy,vz,vb,vc,vd,vu,ve,vf,vg,vh,vi,vj,vk,vl,vm,vn,vo,vp,vq,and_self]) fun x10 _=>?_
    refine wp_cut (fun x:(List Int×Int)×List Sel=>Rd x.1.1 x.1.2 M2∧x.2.length+(s.1 - 1).toNat≤3∧∀ y∈x.2,y.name.length≤100∧y.as.length≤100∧0≤y.id∧y.id≤1000000∧SelD k y.kids) ?_ fun x11 ⟨k1,k2,k3⟩=>?_
    ·simp only [wa,wb,wc,wd,we,vw,vx,vv,vy,vz,vb,vc,vd,vu,ve,vf,vg,vh,vi,vj,vk,vl,vm,vn,vo,vp,vr,vs,vt]
     refine ⟨fun _=>⟨by omega,h9.rd.up (by omega),by rw [h9.out]; omega,fun y hy=>?_⟩,fun _=>⟨h9.rd.up (by omega),by rw [h9.out]; omega,by rw [h9.out]; exact i5⟩⟩
     rw [h9.out] at hy
     rcases List.mem_append.1 hy with hy | hy
     ·exact i5 y hy
     ·obtain rfl:=List.mem_singleton.1 hy
      exact ⟨h9.name,h9.asx,h9.id0,h9.id1,h9.kids⟩
    ·simp only [wa,wb,wc,wd,we,vw,vx,vv,vy,vz,vb,vc,vd,vu,ve,vf,vg,vh,vi,vj,vk,vl,vm,vn,vo,vp]
     exact ⟨by omega,⟨by omega,by omega,k2,by rw [hM2]; exact k1,k3⟩,by omega⟩
  ·simp only [wa,wb,wc,wd,we,vw,vx,vv,vy,vz,vb,vc,vd,vu,ve,vf,vg,vh,vi,vj,vk,vl,vm,vn,vo,vp]
   refine h _ _ _ ⟨by omega,i5⟩ (i4.up ?_)
   omega
end Go.Fw
namespace Go.Fw
open Go
theorem ok3_wpn:∀ (k:Nat)(l:List Sel)(dp left:Int){Q:Int→Prop},SelD k l→0≤dp→dp+k≤100→-1≤left→left≤24→(∀ r:Int,-1≤r→r≤24→Q r)→wp (F_l3Ok (k+1) (l,dp,left)) Q:=by
 intro k
 induction k with
 | zero =>
  intro l dp left Q hl hd1 hd2 h1 h2 h
  rw [hl,F_l3Ok]
  dsimp only
  refine wp_cut (fun x=>x=false) ?_ fun x hx=>?_
  ·simp only [wa,wb,wc,wd,we,vw,vx,vv,vy,vz,vb,vc,vd,vu,ve,vf,vg,vh,vi,vj,vk,vl,vm,vn,vo,vp,vq,and_self,vt]
   omega
  rw [hx,wc]
  refine ⟨fun e=>(by cases e),fun _=>?_⟩
  rw [wb]
  refine wp_loop (fun s:Int×Int=>s=(left,0)) (fun _=>0) rfl fun s hs=>?_
  subst hs
  simp only [wa,wb,wc,wd,we,vw,vx,vv,vy,vz,vb,vc,vd,vu,ve,vf,vg,vh,vi,vj,vk,vl,vm,vn,vo,vp,vt]
  exact ⟨fun h=>by omega,fun _=>h _ h1 h2⟩
 | succ k ih =>
  intro l dp left Q hl hd1 hd2 h1 h2 h
  have hll:=hl.len
  rw [F_l3Ok]
  dsimp only
  refine wp_cut (fun _=>True) (by simp only [wa,wb,wc,wd,we,vw,vx,vv,vy,vz,vb,vc,vd,vu,ve,vf,vg,vh,vi,vj,vk,vl,vm,vn,vo,vp,vq,and_self]) fun x _=>?_
  rw [wc,wd]
  refine ⟨fun _=>h _ (by omega) (by omega),fun _=>?_⟩
  rw [wb]
  refine wp_loop (fun s:Int×Int=>-1≤s.1∧s.1≤24∧0≤s.2) (fun s=>l.length - s.2.toNat) ⟨h1,h2,by simp⟩ fun s ⟨i1,i2,i3⟩=>?_
  refine wp_cut (fun x=>x=true→s.2<l.length∧0≤s.1) ?_ fun x hx=>?_
  ·simp only [wa,wb,wc,wd,we,vw,vx,vv,vy,vz,vb,vc,vd,vu,ve,vf,vg,vh,vi,vj,vk,vl,vm,vn,vo,vp,vq,and_self]
   exact fun h h'=>⟨h,h'⟩
  rw [wc]
  refine ⟨fun hxt=>?_,fun _=>?_⟩
  ·obtain ⟨hlt,h0⟩:=hx hxt
   rw [wa,wb,we]
   refine ⟨by simpa using i3,by omega,?_⟩
   obtain ⟨j,hj,s1,s2,s3,s4,s5⟩:=hl.get (List.getElem_mem (show s.2.toNat<l.length by omega))
   obtain rfl:j=k:=by omega
   generalize l[s.2.toNat]'(by omega)=S at s1 s2 s3 s4 s5
   refine wp_cut (fun _=>True) ?_ fun x2 _=>?_
   ·simp only [wa,wb,wc,wd,we,vw,vx,vv,vy,vz,vb,vc,vd,vu,ve,vf,vg,vh,vi,vj,vk,vl,vm,vn,vo,vp,vq,and_self]
    have hin:wp (F_l1In (S.id,0,999999)) fun _=>True:=in_wp trivial
    exact name2_wp (by omega) fun _ _ _=>⟨fun _=>name2_wp (by omega) fun _ _ _ _=>⟨fun _ _=>hin,fun _=>hin⟩,fun _=>⟨fun _ _=>hin,fun _=>hin⟩⟩
   rw [wc]
   refine ⟨fun _=>?_,fun _=>?_⟩
   ·simp only [wa,wb,wc,wd,we,vw,vx,vv,vy,vz,vb,vc,vd,vu,ve,vf,vg,vh,vi,vj,vk,vl,vm,vn,vo,vp]
    exact h _ (by omega) (by omega)
   rw [wb]
   refine wp_loop (fun i:Int=>0≤i) (fun i=>s.2.toNat - i.toNat) (by simp) fun i hi=>?_
   rw [wc]
   simp only [vc,vd]
   refine ⟨fun hlt2=>?_,fun _=>?_⟩
   ·simp only [wa,wb,wc,wd,we,vw,vx,vv,vy,vz,vb,vc,vd,vu,ve,vf,vg,vh,vi,vj,vk,vl,vm,vn,vo,vp]
    exact ⟨hi,by omega,key3_wp (key3_wp ⟨fun _=>h _ (by omega) (by omega),fun _=>⟨by omega,by omega,by omega⟩⟩)⟩
   ·simp only [wa,wb,wc,wd,we,vw,vx,vv,vy,vz,vb,vc,vd,vu,ve,vf,vg,vh,vi,vj,vk,vl,vm,vn,vo,vp]
    exact ⟨by omega,by omega,ih _ _ _ s5 (by omega) (by omega) (by omega) (by omega) fun r hr1 hr2=>⟨by omega,⟨hr1,hr2,by omega⟩,by omega⟩⟩
  ·simp only [wa,wb,wc,wd,we,vw,vx,vv,vy,vz,vb,vc,vd,vu,ve,vf,vg,vh,vi,vj,vk,vl,vm,vn,vo,vp]
   exact h _ i1 i2
theorem write3_wpn:∀ (k:Nat)(l:List Sel){Q:List UInt8→Prop},k≤10→SelD k l→(∀ s,s.length≤1000 * 4 ^ k→Q s)→wp (F_l3Write (k+1) l) Q:=by
 have hB:BIG=9223372036854775807:=rfl
 intro k
 induction k with
 | zero =>
  intro l Q _ hl h
  rw [hl,F_l3Write]
  rw [wb]
  refine wp_loop (fun s:List UInt8×Int=>s=([123],0)) (fun _=>0) rfl fun s hs=>?_
  subst hs
  simp only [wa,wb,wc,wd,we,vw,vx,vv,vy,vz,vb,vc,vd,vu,ve,vf,vg,vh,vi,vj,vk,vl,vm,vn,vo,vp,vt,vr,vs]
  exact ⟨fun h=>by omega,fun _=>⟨by omega,h _ (by simp)⟩⟩
 | succ k ih =>
  intro l Q hk hl h
  have hll:=hl.len
  have h4:4 ^ (k+1)=4 * 4 ^ k:=by rw [Nat.pow_succ]; omega
  have h4a:4 ^ k≤1048576:=by
   have:4 ^ k≤4 ^ 10:=Nat.pow_le_pow_right (by omega) (by omega)
   omega
  have h4b:1≤4 ^ k:=Nat.one_le_pow _ _ (by omega)
  generalize hC:4 ^ k=C at ih h4 h4a h4b
  rw [F_l3Write]
  rw [wb]
  refine wp_loop (fun s:List UInt8×Int=>0≤s.2∧s.2≤l.length∧s.1.length≤1+s.2.toNat * (230+1000 * C)) (fun s=>l.length - s.2.toNat) ⟨by simp,by simp,by simp⟩ fun s ⟨i1,i2,i3⟩=>?_
  have hbig:s.2.toNat * (230+1000 * C)≤3 * (230+1000 * C):=Nat.mul_le_mul (by omega) (by omega)
  have hstep:(s.2+1).toNat * (230+1000 * C)=s.2.toNat * (230+1000 * C)+(230+1000 * C):=by
   have e:(s.2+1).toNat=s.2.toNat+1:=by omega
   rw [e,Nat.add_mul]; omega
  generalize hM:s.2.toNat * (230+1000 * C)=M at i3 hbig hstep
  generalize hM2:(s.2+1).toNat * (230+1000 * C)=M2 at hstep
  rw [wc]
  simp only [vc,vd]
  refine ⟨fun hlt=>?_,fun _=>?_⟩
  ·rw [wa,wb,we]
   refine ⟨by simpa using i1,by omega,?_⟩
   obtain ⟨j,hj,s1,s2,s3,s4,s5⟩:=hl.get (List.getElem_mem (show s.2.toNat<l.length by omega))
   obtain rfl:j=k:=by omega
   generalize l[s.2.toNat]'(by omega)=S at s1 s2 s3 s4 s5
   refine wp_cut (fun x:List UInt8=>x.length≤1+M+1) ?_ fun x1 g1=>?_
   ·simp only [wa,wb,wc,wd,we,vw,vx,vv,vy,vz,vb,vc,vd,vu,ve,vf,vg,vh,vi,vj,vk,vl,vm,vn,vo,vp,vr,vs,vt]
    exact ⟨fun _=>⟨by omega,by omega⟩,fun _=>by omega⟩
   refine wp_cut (fun x:List UInt8=>x.length≤1+M+102) ?_ fun x2 g2=>?_
   ·simp only [wa,wb,wc,wd,we,vw,vx,vv,vy,vz,vb,vc,vd,vu,ve,vf,vg,vh,vi,vj,vk,vl,vm,vn,vo,vp,vr,vs,vt]
    exact ⟨fun _=>⟨by omega,by omega,by omega⟩,fun _=>by omega⟩
   rw [wa]
   refine ⟨by simp only [vc]; omega,?_⟩
   refine wp_cut (fun x:List UInt8=>x.length≤1+M+222) ?_ fun x3 g3=>?_
   ·simp only [wa,wb,wc,wd,we,vw,vx,vv,vy,vz,vb,vc,vd,vu,ve,vf,vg,vh,vi,vj,vk,vl,vm,vn,vo,vp,vr,vs,vt]
    exact ⟨fun _=>⟨by omega,dec_wp s3 (by omega) fun ds hds=>⟨by omega,by omega,by omega⟩⟩,fun _=>by omega⟩
   refine wp_cut (fun x:List UInt8=>x.length≤1+M2) ?_ fun x4 g4=>?_
   ·simp only [wa,wb,wc,wd,we,vw,vx,vv,vy,vz,vb,vc,vd,vu,ve,vf,vg,vh,vi,vj,vk,vl,vm,vn,vo,vp,vr,vs,vt]
    exact ⟨fun _=>ih _ (by omega) s5 fun ws hws=>⟨by omega,by omega⟩,fun _=>by omega⟩
   simp only [wa,wb,wc,wd,we,vw,vx,vv,vy,vz,vb,vc,vd,vu,ve,vf,vg,vh,vi,vj,vk,vl,vm,vn,vo,vp]
   exact ⟨by omega,⟨by omega,by omega,by rw [hM2]; exact g4⟩,by omega⟩
  ·simp only [wa,wb,wc,wd,we,vw,vx,vv,vy,vz,vb,vc,vd,vu,ve,vf,vg,vh,vi,vj,vk,vl,vm,vn,vo,vp,vr,vs,vt]
   exact ⟨by omega,h _ (by simp only [vr,vs,vt]; omega)⟩
def CkOk (p:Part):Nat→List UInt8→List Sel→Prop
 | 0,_,l=>l=[]
 | k+1,nm,l=>∀ s∈l,(getF p nm s.name).2=true∧(isSc (getF p nm s.name).1.of=true→s.kids=[])∧CkOk p k (getF p nm s.name).1.of s.kids
theorem check3_wpn {p:Part}(hp:SmP 200 p):∀ (k:Nat)(nm:List UInt8)(l:List Sel)(way:List (List UInt8)){Q:AFault→Prop},k≤10→SelD k l→way.length+k≤100→(∀ r,r.way.length≤101→(r.code=0→CkOk p k nm l)→Q r)→wp (F_l3Check (k+1) (p,nm,l,way)) Q:=by
 have hL:LIM=1099511627776:=rfl
 intro k
 induction k with
 | zero =>
  intro nm l way Q _ hl hw h
  rw [hl,F_l3Check]
  dsimp only
  rw [wb]
  refine wp_loop (fun s:Int×Int×List (List UInt8)=>s=(0,0,[])) (fun _=>0) rfl fun s hs=>?_
  subst hs
  simp only [wa,wb,wc,wd,we,vw,vx,vv,vy,vz,vb,vc,vd,vu,ve,vf,vg,vh,vi,vj,vk,vl,vm,vn,vo,vp,vt]
  exact ⟨fun h=>by omega,fun _=>h _ (by simp) fun _=>hl⟩
 | succ k ih =>
  intro nm l way Q hk hl hw h
  have hll:=hl.len
  have bad:∀ w c,w.length≤101→c≠0→Q ⟨w,c⟩:=fun w c hw hc=>h _ hw fun e=>absurd e hc
  rw [F_l3Check]
  dsimp only
  rw [wb]
  refine wp_loop (fun s:Int×Int×List (List UInt8)=>0≤s.1∧∀ (j:Nat)(hj:j<l.length),j<s.1.toNat→(getF p nm l[j].name).2=true∧(isSc (getF p nm l[j].name).1.of=true→l[j].kids=[])∧CkOk p k (getF p nm l[j].name).1.of l[j].kids) (fun s=>l.length - s.1.toNat) ⟨by simp,by simp⟩ fun s ⟨i1,i2⟩=>?_
  rw [wc]
  simp only [vc,vd]
  refine ⟨fun hlt=>?_,fun _=>?_⟩
  ·rw [wa,wb,we]
   refine ⟨by simpa using i1,by omega,?_⟩
   obtain ⟨j,hj,s1,s2,s3,s4,s5⟩:=hl.get (List.getElem_mem (show s.1.toNat<l.length by omega))
   obtain rfl:j=k:=by omega
   have hnext:((getF p nm (l[s.1.toNat]'(by omega)).name).2=true∧(isSc (getF p nm (l[s.1.toNat]'(by omega)).name).1.of=true→(l[s.1.toNat]'(by omega)).kids=[])∧CkOk p j (getF p nm (l[s.1.toNat]'(by omega)).name).1.of (l[s.1.toNat]'(by omega)).kids) →
     ∀ (i:Nat)(hi:i<l.length),i<(s.1+1).toNat→(getF p nm l[i].name).2=true∧(isSc (getF p nm l[i].name).1.of=true→l[i].kids=[])∧CkOk p j (getF p nm l[i].name).1.of l[i].kids:=fun hnew i hi hi2=>by
    rcases Nat.lt_or_ge i s.1.toNat with h' | h'
    ·exact i2 i hi h'
    ·obtain rfl:i=s.1.toNat:=by omega
     exact hnew
   generalize l[s.1.toNat]'(by omega)=S at s1 s2 s3 s4 s5 hnext
   rw [wa]
   refine ⟨by simp only [vc]; omega,?_⟩
   rw [wb]
   refine key3_wp ?_
   generalize (if (Sel.mk S.as S.name S.one S.id S.kids).as=[] then (Sel.mk S.as S.name S.one S.id S.kids).name else (Sel.mk S.as S.name S.one S.id S.kids).as)=ky
   have hwl:(way++[ky]).length≤101:=by simp only [vr,vs,vt]; omega
   rw [wa,wb]
   refine ⟨by simp only [vc,vs,vt]; omega,get_wp hp (by omega) ?_⟩
   generalize getF p nm S.name=fo at hnext
   rw [wb]
   refine scalar_wp ?_
   refine wp_cut (fun x=>x=false→fo.2=true) ?_ fun x4 g4=>?_
   ·simp only [wa,wb,wc,wd,we,vw,vx,vv,vy,vz,vb,vc,vd,vu,ve,vf,vg,vh,vi,vj,vk,vl,vm,vn,vo,vp,vq,and_self]
    exact fun h _=>h
   rw [wc]
   refine ⟨fun _=>by simp only [wa,wb,wc,wd,we,vw,vx,vv,vy,vz,vb,vc,vd,vu,ve,vf,vg,vh,vi,vj,vk,vl,vm,vn,vo,vp]; exact bad _ _ hwl (by omega),fun hx4=>?_⟩
   refine wp_cut (fun x=>x=false→isSc fo.1.of=true→S.kids=[]) ?_ fun x5 g5=>?_
   ·simp only [wa,wb,wc,wd,we,vw,vx,vv,vy,vz,vb,vc,vd,vu,ve,vf,vg,vh,vi,vj,vk,vl,vm,vn,vo,vp,vq,and_self]
    refine ⟨fun _ h _=>?_,fun h h'=>(by rw [h] at h'; cases h')⟩
    simp only [gt_iff_lt,Int.natCast_pos,Nat.not_lt,Nat.le_zero,List.length_eq_zero_iff] at h
    exact h
   rw [wc]
   refine ⟨fun _=>by simp only [wa,wb,wc,wd,we,vw,vx,vv,vy,vz,vb,vc,vd,vu,ve,vf,vg,vh,vi,vj,vk,vl,vm,vn,vo,vp]; exact bad _ _ hwl (by omega),fun hx5=>?_⟩
   refine wp_cut (fun _=>True) (by simp only [wa,wb,wc,wd,we,vw,vx,vv,vy,vz,vb,vc,vd,vu,ve,vf,vg,vh,vi,vj,vk,vl,vm,vn,vo,vp,vq,and_self]) fun x6 _=>?_
   rw [wc]
   refine ⟨fun _=>by simp only [wa,wb,wc,wd,we,vw,vx,vv,vy,vz,vb,vc,vd,vu,ve,vf,vg,vh,vi,vj,vk,vl,vm,vn,vo,vp]; exact bad _ _ hwl (by omega),fun _=>?_⟩
   refine wp_cut (fun _=>True) (by simp only [wa,wb,wc,wd,we,vw,vx,vv,vy,vz,vb,vc,vd,vu,ve,vf,vg,vh,vi,vj,vk,vl,vm,vn,vo,vp,vq,and_self]) fun x7 _=>?_
   rw [wc]
   refine ⟨fun _=>by simp only [wa,wb,wc,wd,we,vw,vx,vv,vy,vz,vb,vc,vd,vu,ve,vf,vg,vh,vi,vj,vk,vl,vm,vn,vo,vp]; exact bad _ _ hwl (by omega),fun _=>?_⟩
   rw [wb]
   refine ih _ _ _ (by omega) s5 (by simp only [vr,vs,vt]; omega) fun r hr1 hr2=>?_
   simp only [wa,wb,wc,wd,we,vw,vx,vv,vy,vz,vb,vc,vd,vu,ve,vf,vg,vh,vi,vj,vk,vl,vm,vn,vo,vp]
   refine ⟨fun hr=>h _ hr1 fun e=>absurd e hr,fun hr=>⟨by omega,⟨by omega,hnext ⟨g4 hx4,g5 hx5,hr2 hr⟩⟩,by omega⟩⟩
  ·simp only [wa,wb,wc,wd,we,vw,vx,vv,vy,vz,vb,vc,vd,vu,ve,vf,vg,vh,vi,vj,vk,vl,vm,vn,vo,vp]
   refine h _ (by simp) fun _ s hs=>?_
   obtain ⟨j,hj,rfl⟩:=List.getElem_of_mem hs
   exact i2 j hj (by omega)
theorem askok_wp {k:Nat}{l:List Sel}{Q:Bool→Prop}(hk:k≤10)(hl:SelD k l)(h:∀ r,(r=true→1≤l.length)→Q r):wp (F_AskOk l) Q:=by
 rw [F_AskOk_eq]; unfold B_AskOk
 simp only [wa,wb,wc,wd,we,vw,vx,vv,vy,vz,vb,vc,vd,vu,ve,vf,vg,vh,vi,vj,vk,vl,vm,vn,vo,vp]
 refine ⟨fun h0=>wp_lim ok3_mono (ok3_wpn k l 1 24 hl (by omega) (by omega) (by omega) (by omega) fun r _ _=>⟨fun _=>wp_lim write3_mono (write3_wpn k l hk hl fun s _=>h _ fun _=>by omega),fun _=>h _ (by simp)⟩),fun _=>h _ (by simp)⟩
theorem askcheck_wp {k:Nat}{p:Part}{l:List Sel}{Q:AFault→Prop}(hp:SmP 200 p)(hk:k≤10)(hl:SelD k l)(h:∀ r,(r.code=0→WF p∧1≤l.length∧CkOk p k [113,117,101,114,121] l)→Q r):wp (F_AskCheck (p,l)) Q:=by
 have hL:LIM=1099511627776:=rfl
 rw [F_AskCheck_eq]; unfold B_AskCheck; dsimp only
 refine wp_cut (fun x=>x=false→WF p∧1≤l.length) ?_ fun x hx=>?_
 ·simp only [wa,wb,wc,wd,we,vw,vx,vv,vy,vz,vb,vc,vd,vu,ve,vf,vg,vh,vi,vj,vk,vl,vm,vn,vo,vp,vq,and_self]
  refine pcheck_wp hp (by omega) fun r hr h0=>askok_wp hk hl fun b hb e=>?_
  exact ⟨hr h0,hb e⟩
 rw [wc,wd]
 refine ⟨fun _=>h _ fun e=>by simp at e,fun hxf=>?_⟩
 obtain ⟨h1,h2⟩:=hx hxf
 rw [wb]
 refine wp_lim check3_mono (check3_wpn hp k _ _ _ hk hl (by simp; omega) fun r hr1 hr2=>?_)
 simp only [wa,wb,wc,wd,we,vw,vx,vv,vy,vz,vb,vc,vd,vu,ve,vf,vg,vh,vi,vj,vk,vl,vm,vn,vo,vp]
 exact ⟨by omega,h _ fun e=>⟨h1,h2,hr2 e⟩⟩
end Go.Fw
namespace Go.Fw
open Go
def SelW (W:Nat):Nat→List Sel→Prop
 | 0,l=>l=[]
 | k+1,l=>l.length≤W∧∀ s∈l,SelW W k s.kids
theorem SelW.nil (W:Nat):∀ k,SelW W k []
 | 0=>rfl
 | k+1=>⟨by simp,fun s hs=>by cases hs⟩
theorem SelW.len {W k:Nat}{l:List Sel}(h:SelW W k l):l.length≤W:=by
 cases k with
 | zero=>rw [h]; simp
 | succ k=>exact h.1
theorem SelW.get {W k:Nat}{l:List Sel}(h:SelW W k l){s:Sel}(hs:s∈l):∃ j,k=j+1∧SelW W j s.kids:=by
 cases k with
 | zero=>rw [h] at hs; cases hs
 | succ k=>exact ⟨k,rfl,h.2 s hs⟩
theorem SelW.up {W:Nat} : ∀ {k:Nat}{l:List Sel},SelW W k l→SelW W (k+1) l
 | 0,l,h=>by rw [h]; exact .nil _ _
 | k+1,l,h=>⟨h.1,fun s hs=>(h.2 s hs).up⟩
theorem SelW.up' {W k j:Nat}{l:List Sel}(h:SelW W k l)(hj:k≤j):SelW W j l:=by
 obtain ⟨d,rfl⟩:=Nat.exists_eq_add_of_le hj
 induction d with
 | zero=>exact h
 | succ d ih=>exact (ih (by omega)).up
theorem copyW_wpn {W:Nat}(hW:W≤1000000):∀ (k:Nat)(l:List Sel){Q:List Sel→Prop},SelW W k l→Q l→wp (F_l3Copy (k+1) l) Q:=by
 have hL:LIM=1099511627776:=rfl
 intro k
 induction k with
 | zero =>
  intro l Q hl h
  subst hl
  rw [F_l3Copy]
  rw [wb]
  refine wp_loop (fun s:Int×List Sel=>s=(0,[])) (fun _=>0) rfl fun s hs=>?_
  subst hs
  simp only [wa,wb,wc,wd,we,vw,vx,vv,vy,vz,vb,vc,vd,vu,ve,vf,vg,vh,vi,vj,vk,vl,vm,vn,vo,vp,vt]
  exact ⟨fun h=>by omega,fun _=>h⟩
 | succ k ih =>
  intro l Q hl h
  have hll:=hl.len
  rw [F_l3Copy]
  rw [wb]
  refine wp_loop (fun s:Int×List Sel=>0≤s.1∧s.1≤l.length∧s.2=l.take s.1.toNat) (fun s=>l.length - s.1.toNat) ⟨by simp,by simp,by simp⟩ fun s ⟨i1,i2,i3⟩=>?_
  rw [wc]
  simp only [vc,vd]
  refine ⟨fun hlt=>?_,fun _=>?_⟩
  ·rw [wa,wb,we]
   refine ⟨by simpa using i1,by omega,?_⟩
   obtain ⟨j,hj,s5⟩:=hl.get (List.getElem_mem (show s.1.toNat<l.length by omega))
   obtain rfl:j=k:=by omega
   rw [wb]
   refine ih _ s5 ?_
   simp only [wa,wb,wc,wd,we,vw,vx,vv,vy,vz,vb,vc,vd,vu,ve,vf,vg,vh,vi,vj,vk,vl,vm,vn,vo,vp,Sel.eta,vs,vt]
   have hl2:s.2.length≤W:=by rw [i3,List.length_take]; omega
   refine ⟨by omega,by omega,⟨by omega,by omega,?_⟩,by omega⟩
   have e:(s.1+1).toNat=s.1.toNat+1:=by omega
   rw [e,List.take_succ_eq_append_getElem (by omega),i3]
  ·simp only [wa,wb,wc,wd,we,vw,vx,vv,vy,vz,vb,vc,vd,vu,ve,vf,vg,vh,vi,vj,vk,vl,vm,vn,vo,vp]
   have e:s.1.toNat=l.length:=by omega
   rw [i3,e,List.take_length]
   exact h
abbrev XT:=List Part×List UInt8×List Typ×Bool
theorem step_wp {x:Int}{way:List (List UInt8)}{nm:List UInt8}{after:List Int}{X:XT}{steps:List Stp}{Q:Int×XT×List Stp→Prop}(h1:way.length≤1000000)(h2:after.length≤1000000)(h3:steps.length≤1000000000000)
  (h:∀ r:Int,r=steps.length→Q (r,X,steps++[⟨x,way,nm,[],after,[]⟩])):wp (F_l8Plan_step (x,way,nm,after,X,steps)) Q:=by
 have hL:LIM=1099511627776:=rfl
 rw [F_l8Plan_step_eq]; unfold B_l8Plan_step; dsimp only
 simp only [wa,wb,wc,wd,we,vw,vx,vv,vy,vz,vb,vc,vd,vu,ve,vf,vg,vh,vi,vj,vk,vl,vm,vn,vo,vp,vr,vs,vt]
 exact ⟨by omega,by omega,by omega,by omega,h _ (by omega)⟩
theorem words_wp {l:List (List UInt8)}{s:List UInt8}{Q:List (List UInt8)→Prop}(hl:l.length≤1000000)(h:∀ r,r.length≤l.length+1→(∀ w∈r,w∈l∨w=s)→Q r):wp (F_l8Words (l,s)) Q:=by
 have hL:LIM=1099511627776:=rfl
 rw [F_l8Words_eq]; unfold B_l8Words; dsimp only
 rw [wb]
 refine wp_loop (fun i:Int=>0≤i∧i≤l.length) (fun i=>l.length - i.toNat) ⟨by simp,by simp⟩ fun i ⟨i1,i2⟩=>?_
 refine wp_cut (fun x=>x=true→i<l.length) ?_ fun x hx=>?_
 ·simp only [wa,wb,wc,wd,we,vw,vx,vv,vy,vz,vb,vc,vd,vu,ve,vf,vg,vh,vi,vj,vk,vl,vm,vn,vo,vp,vq,and_self]
  exact fun h=>⟨i1,by omega,fun _=>h⟩
 rw [wc]
 refine ⟨fun hxt=>?_,fun _=>?_⟩
 ·have:=hx hxt
  simp only [wa,wb,wc,wd,we,vw,vx,vv,vy,vz,vb,vc,vd,vu,ve,vf,vg,vh,vi,vj,vk,vl,vm,vn,vo,vp]
  exact ⟨by omega,⟨by omega,by omega⟩,by omega⟩
 simp only [wd,vz]
 refine wp_cut (fun _=>True) ?_ fun x2 _=>?_
 ·simp only [wa,wb,wc,wd,we,vw,vx,vv,vy,vz,vb,vc,vd,vu,ve,vf,vg,vh,vi,vj,vk,vl,vm,vn,vo,vp,vq,and_self]
  exact fun h=>⟨i1,by omega,trivial⟩
 simp only [wa,wb,wc,wd,we,vw,vx,vv,vy,vz,vb,vc,vd,vu,ve,vf,vg,vh,vi,vj,vk,vl,vm,vn,vo,vp,vr,vs,vt,List.length_take,List.length_drop]
 refine ⟨fun _=>h _ (by omega) fun w hw=>.inl hw,fun _=>⟨⟨⟨by omega,by omega⟩,by omega⟩,by omega,by omega,⟨⟨by omega,by omega⟩,by omega⟩,by omega,h _ ?_ fun w hw=>?_⟩⟩
 ·simp only [vr,vs,vt,List.length_take,List.length_drop]
  omega
 ·simp only [List.mem_append,List.mem_singleton] at hw
  rcases hw with (hw | hw) | hw
  ·exact .inl (List.mem_of_mem_drop (List.mem_of_mem_take hw))
  ·exact .inr hw
  ·exact .inl (List.mem_of_mem_drop (List.mem_of_mem_take hw))
theorem add8_wp {l:List Sel}{s:Sel}{Q:List Sel→Prop}(hl:l.length≤1000000)(h:∀ r,r.length≤l.length+1→(∀ x∈r,x∈l∨x=s)→Q r):wp (F_l8Add (l,s)) Q:=by
 have hL:LIM=1099511627776:=rfl
 rw [F_l8Add_eq]; unfold B_l8Add; dsimp only
 rw [wb]
 refine wp_loop (fun i:Int=>0≤i) (fun i=>l.length - i.toNat) (by simp) fun i hi=>?_
 simp only [wa,wb,wc,wd,we,vw,vx,vv,vy,vz,vb,vc,vd,vu,ve,vf,vg,vh,vi,vj,vk,vl,vm,vn,vo,vp,vs,vt]
 refine ⟨fun _=>⟨hi,by omega,key3_wp (key3_wp ⟨fun _=>h _ (by omega) fun x hx=>.inl hx,fun _=>⟨by omega,by omega,by omega⟩⟩)⟩,fun _=>⟨by omega,by omega,h _ (by simp) fun x hx=>?_⟩⟩
 rcases List.mem_append.1 hx with hx | hx
 ·exact .inl hx
 ·exact .inr (List.mem_singleton.1 hx)
theorem need8_wp {s:List UInt8}{Q:Sel→Prop}(hs:s.length≤1000000)(h:Q (Sel.mk ([95]++s) s false 0 [])):wp (F_l8Need s) Q:=by
 have hB:BIG=9223372036854775807:=rfl
 rw [F_l8Need_eq]; unfold B_l8Need
 simp only [wa,wb,wc,wd,we,vw,vx,vv,vy,vz,vb,vc,vd,vu,ve,vf,vg,vh,vi,vj,vk,vl,vm,vn,vo,vp,vs,vt]
 exact ⟨by omega,h⟩
theorem next_query (ps:List Part)(fr:Int)(fl:List UInt8):F_l7Next (ps,fr,[113,117,101,114,121],fl)=F_l7First (ps,[113,117,101,114,121],fl):=by
 rw [F_l7Next_eq]; unfold B_l7Next; dsimp only
 have h1:((([113,117,101,114,121]:List UInt8) != [113,117,101,114,121]):Bool)=false:=rfl
 have h2:((([113,117,101,114,121]:List UInt8) == [113,117,101,114,121]):Bool)=true:=rfl
 rw [h1,h2]
 simp only [condD,bindD,cond_false,cond_true,Option.bind_some]
 cases F_l7First (ps,[113,117,101,114,121],fl) <;> rfl
end Go.Fw
namespace Go.Fw
open Go
abbrev qn:List UInt8:=[113,117,101,114,121]
def TT (k:Nat):Nat:=2000 * 16 ^ k
theorem TT_succ (k:Nat):TT (k+1)=16 * TT k:=by unfold TT; rw [Nat.pow_succ]; omega
theorem TT_pos (k:Nat):2000≤TT k:=by
 have:1≤16 ^ k:=Nat.one_le_pow _ _ (by omega)
 unfold TT; omega
structure StpOk (s:Stp):Prop where
 way:s.way.length≤100
 after:s.after.length≤1000
 brings:s.brings.length≤1000
 sels:SelW 2000 10 s.sels
structure Stps (m:Nat)(l:List Stp):Prop where
 len:l.length≤m
 ok:∀ s∈l,StpOk s
theorem Stps.up {m k:Nat}{l:List Stp}(h:Stps m l)(hk:m≤k):Stps k l:=⟨Nat.le_trans h.len hk,h.ok⟩
theorem Stps.app {m:Nat}{l:List Stp}(h:Stps m l){s:Stp}(hs:StpOk s):Stps (m+1) (l++[s]):=by
 refine ⟨by have:=h.len; simp; omega,fun x hx=>?_⟩
 rcases List.mem_append.1 hx with hx | hx
 ·exact h.ok x hx
 ·obtain rfl:=List.mem_singleton.1 hx
  exact hs
theorem Stps.set {m:Nat}{l:List Stp}(h:Stps m l)(i:Nat){s:Stp}(hs:StpOk s):Stps m (l.set i s):=by
 refine ⟨by rw [List.length_set]; exact h.len,fun x hx=>?_⟩
 rcases List.mem_or_eq_of_mem_set hx with hx | rfl
 ·exact h.ok x hx
 ·exact hs
def Ext (a b:List Stp):Prop:=∀ (j:Nat)(x:Stp),a[j]? = some x→∃ y,b[j]? = some y∧y.part=x.part
theorem Ext.refl (a:List Stp):Ext a a:=fun _ x h=>⟨x,h,rfl⟩
theorem Ext.trans {a b c:List Stp}(h:Ext a b)(h':Ext b c):Ext a c:=fun j x hx=>by
 obtain ⟨y,h1,h2⟩:=h j x hx
 obtain ⟨z,h3,h4⟩:=h' j y h1
 exact ⟨z,h3,h4.trans h2⟩
theorem Ext.app (a:List Stp)(s:Stp):Ext a (a++[s]):=fun j x h=>⟨x,by rw [List.getElem?_append_left (List.getElem?_eq_some_iff.1 h).1]; exact h,rfl⟩
theorem Ext.set (a:List Stp)(i:Nat)(h:i<a.length)(s:Stp)(hs:s.part=a[i].part):Ext a (a.set i s):=fun j x hx=>by
 by_cases hij:i=j
 ·subst hij
  refine ⟨s,by rw [List.getElem?_set_self h],?_⟩
  rw [List.getElem?_eq_getElem h] at hx
  cases hx; exact hs
 ·exact ⟨x,by rw [List.getElem?_set_ne hij]; exact hx,rfl⟩
def VAt (n:Nat)(st:List Stp)(at':Int):Prop:=0≤at'∧∃ x,st[at'.toNat]? = some x∧0≤x.part∧x.part<n
theorem VAt.ext {n:Nat}{a b:List Stp}{at':Int}(h:VAt n a at')(he:Ext a b):VAt n b at':=by
 obtain ⟨h0,x,h1,h2,h3⟩:=h
 obtain ⟨y,h4,h5⟩:=he _ x h1
 exact ⟨h0,y,h4,by rw [h5]; exact h2,by rw [h5]; exact h3⟩
theorem VAt.lt {n:Nat}{st:List Stp}{at':Int}(h:VAt n st at'):at'.toNat<st.length:=by
 obtain ⟨_,x,h1,_⟩:=h
 exact (List.getElem?_eq_some_iff.1 h1).1
theorem VAt.part {n:Nat}{st:List Stp}{at':Int}(h:VAt n st at')(hi:at'.toNat<st.length):0≤st[at'.toNat].part∧st[at'.toNat].part<n:=by
 obtain ⟨_,x,h1,h2⟩:=h
 rw [List.getElem?_eq_getElem hi] at h1
 cases h1; exact h2
structure LocK (k L:Nat)(l:List Sel):Prop where
 len:l.length≤L
 kid:∀ s∈l,SelW 2000 k s.kids
theorem LocK.sel {k L:Nat}{l:List Sel}(h:LocK k L l)(hL:L≤2000):SelW 2000 (k+1) l:=⟨Nat.le_trans h.len hL,h.kid⟩
theorem LocK.up {k L M:Nat}{l:List Sel}(h:LocK k L l)(hL:L≤M):LocK k M l:=⟨Nat.le_trans h.len hL,h.kid⟩
theorem LocK.app {k L:Nat}{l:List Sel}(h:LocK k L l){s:Sel}(hs:SelW 2000 k s.kids):LocK k (L+1) (l++[s]):=by
 refine ⟨by have:=h.len; simp; omega,fun x hx=>?_⟩
 rcases List.mem_append.1 hx with hx | hx
 ·exact h.kid x hx
 ·obtain rfl:=List.mem_singleton.1 hx
  exact hs
theorem LocK.of {k L:Nat}{l r:List Sel}(h:LocK k L l){s:Sel}(hs:s.kids=[])(h1:r.length≤l.length+1)(h2:∀ x∈r,x∈l∨x=s):LocK k (L+1) r:=by
 refine ⟨by have:=h.len; omega,fun x hx=>?_⟩
 rcases h2 x hx with hx | rfl
 ·exact h.kid x hx
 ·rw [hs]; exact .nil _ _
section
variable {ps:List Part}{all:Part}
def SplitOk (ps:List Part)(all:Part)(n k:Nat):Prop:=∀ {at':Int}{nm:List UInt8}{sels:List Sel}{way:List (List UInt8)}{ok:Bool}{steps:List Stp}{m:Nat}{Q:List Sel×XT×List Stp→Prop},
 SelD k sels→CkOk all k nm sels→VAt ps.length steps at'→way.length+k≤50→Stps m steps→m+TT k≤1000000000000 →
 (∀ l ok' steps',SelW 2000 k l→Stps (m+TT k) steps'→Ext steps steps'→Q (l,(ps,all.name,all.types,ok'),steps')) →
 wp (F_l8Plan_split n (at',nm,sels,way,(ps,all.name,all.types,ok),steps)) Q
def FurtherOk (ps:List Part)(all:Part)(n k:Nat):Prop:=∀ {at' to:Int}{nm:List UInt8}{sels:List Sel}{way:List (List UInt8)}{loc:List Sel}{ok:Bool}{steps:List Stp}{m L:Nat}{Q:List Sel×XT×List Stp→Prop},
 SelD (k+1) sels→sels≠[]→CkOk all (k+1) nm sels→VAt ps.length steps at'→0≤to→to<ps.length→(nm=qn→∀ s∈sels,F_l7First (ps,qn,s.name)=some to)→way.length+k+1≤50→LocK k L loc→L≤1500→Stps m steps→m+(400+3 * TT k)≤1000000000000 →
 (∀ loc' ok' steps',LocK k (L+301) loc'→Stps (m+(400+3 * TT k)) steps'→Ext steps steps'→Q (loc',(ps,all.name,all.types,ok'),steps')) →
 wp (F_l8Plan_further n (at',to,nm,sels,way,loc,(ps,all.name,all.types,ok),steps)) Q
theorem split_nil {n:Nat}{at':Int}{nm:List UInt8}{way:List (List UInt8)}{ok:Bool}{steps:List Stp}{Q:List Sel×XT×List Stp→Prop}(hps:ps.length≤4)(hv:VAt ps.length steps at')(h:Q ([],(ps,all.name,all.types,ok),steps)) :
  wp (F_l8Plan_split (n+1) (at',nm,[],way,(ps,all.name,all.types,ok),steps)) Q:=by
 have hL:LIM=1099511627776:=rfl
 have hlt:=hv.lt
 rw [F_l8Plan_split]
 dsimp only
 rw [wa,wb,we]
 refine ⟨by simp only [vb,vc]; exact ⟨hv.1,by have:=hv.1; omega⟩,hlt,?_⟩
 rw [wa]
 refine ⟨by simp only [vb,vc]; omega,?_⟩
 rw [wb]
 refine wp_loop (fun s:Int×XT×List Sel×List (List Sel)×List Stp=>s=(0,(ps,all.name,all.types,ok),[],List.replicate ((ps.length:Int)).toNat [],steps)) (fun _=>0) rfl fun s hs=>?_
 subst hs
 rw [wc]
 simp only [vc,vd,vt]
 refine ⟨fun h=>by simp at h,fun _=>?_⟩
 simp only [wd,vz,vw]
 rw [wb]
 refine wp_loop (fun s:List Sel×Int×XT×List Stp=>0≤s.2.1∧s=([],s.2.1,(ps,all.name,all.types,ok),steps)) (fun s=>ps.length - s.2.1.toNat) ⟨by simp,rfl⟩ fun s ⟨i1,i2⟩=>?_
 rw [i2]
 simp only [wa,wb,wc,wd,we,vw,vx,vv,vy,vz,vb,vc,vd,vu,ve,vf,vg,vh,vi,vj,vk,vl,vm,vn,vo,vp,List.length_replicate,Int.toNat_natCast,List.getElem_replicate,vt]
 refine ⟨fun hlt=>⟨i1,by omega,fun h=>by simp at h,fun _=>⟨by omega,by omega,by omega⟩⟩,fun _=>h⟩
end
end Go.Fw
namespace Go.Fw
open Go
structure PA (ps:List Part)(all:Part):Prop where
 ch:Ch ps
 wf:WF all
 sm:SmP 200 all
theorem wp_eq {α:Type}{x:Option α}{Q:α→Prop}(h:wp x Q):∃ a,x=some a∧Q a:=h
theorem split_core {ps:List Part}{all:Part}(hA:PA ps all){n k:Nat}{at':Int}{nm:List UInt8}{sels:List Sel}{way:List (List UInt8)}{ok:Bool}{steps:List Stp}{m E:Nat}{Q:List Sel×XT×List Stp→Prop}
  (hs:SplitOk ps all n k)(hsel:SelD (k+1) sels)(hck:CkOk all (k+1) nm sels)(hv:VAt ps.length steps at')(hway:way.length+(k+1)≤50)(hst:Stps m steps)(hm:m+(3 * TT k+4 * E)≤1000000000000)
  (mode:(nm=qn∧∀ s∈sels,∀ x,steps[at'.toNat]? = some x→F_l7First (ps,qn,s.name)=some x.part)∨(FurtherOk ps all n k∧400+3 * TT k≤E))
  (h:∀ l ok' steps',SelW 2000 (k+1) l→Stps (m+(3 * TT k+4 * E)) steps'→Ext steps steps'→Q (l,(ps,all.name,all.types,ok'),steps')) :
  wp (F_l8Plan_split (n+1) (at',nm,sels,way,(ps,all.name,all.types,ok),steps)) Q:=by
 have hL:LIM=1099511627776:=rfl
 have hps:=hA.ch.few
 have hlt:=hv.lt
 have hv0:=hv.1
 have hsl:=hsel.len
 generalize hTk:TT k=T at hm mode h
 rw [F_l8Plan_split]
 dsimp only
 rw [wa,wb,we]
 refine ⟨by simp only [vb,vc]; exact ⟨hv0,by omega⟩,hlt,?_⟩
 obtain ⟨hp0,hp1⟩:=hv.part hlt
 have hX:steps[at'.toNat]? = some (steps[at'.toNat]'hlt):=List.getElem?_eq_getElem hlt
 generalize steps[at'.toNat]'hlt=X at hp0 hp1 hX
 have mode':(nm=qn∧∀ s∈sels,F_l7First (ps,qn,s.name)=some X.part)∨(FurtherOk ps all n k∧400+3 * T≤E):=mode.imp (fun ⟨a,b⟩=>⟨a,fun s hs=>b s hs X hX⟩) id
 rw [wa]
 refine ⟨by simp only [vb,vc]; omega,?_⟩
 rw [wb]
 refine wp_loop (fun s:Int×XT×List Sel×List (List Sel)×List Stp=>0≤s.1∧s.1≤sels.length∧s.2.1.1=ps∧s.2.1.2.1=all.name∧s.2.1.2.2.1=all.types∧LocK k s.1.toNat s.2.2.1∧s.2.2.2.1.length=ps.length ∧
   (∀ (to:Nat)(l:List Sel),s.2.2.2.1[to]? = some l→l.length≤s.1.toNat∧∀ x∈l,x∈sels∧(nm=qn→F_l7First (ps,qn,x.name)=some (to:Int))) ∧
   ((nm=qn∧∀ x∈sels,F_l7First (ps,qn,x.name)=some X.part)→∀ l∈s.2.2.2.1,l=[])∧Stps (m+s.1.toNat * T) s.2.2.2.2∧Ext steps s.2.2.2.2) (fun s=>sels.length - s.1.toNat)
  ⟨by simp,by simp,rfl,rfl,rfl,⟨by simp,by simp⟩,by simp,fun to l hl=>?_,fun _ l hl=>by simpa using (List.mem_replicate.1 hl).2,by simpa using hst,.refl _⟩ ?_
 ·obtain ⟨h1,h2⟩:=List.getElem?_eq_some_iff.1 hl
  rw [List.getElem_replicate] at h2
  subst h2
  exact ⟨by simp,by simp⟩
 rintro ⟨i,⟨ps',an,ats,okv⟩,loc,rest,sts⟩ ⟨i1,i2,i3,i4,i5,i6,i7,i8,i9,i10,i11⟩
 dsimp only at i1 i2 i3 i4 i5 i6 i7 i8 i9 i10 i11
 subst i3 i4 i5
 have hstep:(i+1).toNat * T=i.toNat * T+T:=by
  have e:(i+1).toNat=i.toNat+1:=by omega
  rw [e,Nat.add_mul]; omega
 have hbig:i.toNat * T≤3 * T:=Nat.mul_le_mul (by omega) (Nat.le_refl _)
 have i6l:=i6.len
 have i10l:=i10.len
 dsimp only
 rw [wc]
 simp only [vc,vd]
 refine ⟨fun hlt2=>?_,fun hge=>?_⟩
 ·have hii:i.toNat<sels.length:=by omega
  rw [wa,wb,we]
  refine ⟨by simpa using i1,hii,?_⟩
  have hSm:=List.getElem_mem hii
  generalize sels[i.toNat]'hii=S at hSm
  obtain ⟨j,hj,s1,s2,s3,s4,s5⟩:=hsel.get hSm
  obtain rfl:j=k:=by omega
  obtain ⟨c1,c2,c3⟩:=hck S hSm
  obtain ⟨r,hr,hr1,hr2⟩:=wp_eq (next_wp (Q:=fun r:Int=>-1≤r∧r<ps'.length) (nm:=nm) (fl:=S.name) hA.ch.sm (by omega) (by omega) hp0 hp1 fun r a b=>⟨a,b⟩)
  rw [hr,wb,wd,wc]
  simp only [vc,vd]
  refine ⟨fun _=>?_,fun hr0=>?_⟩
  ·simp only [wa,wb,wc,wd,we,vw,vx,vv,vy,vz,vb,vc,vd,vu,ve,vf,vg,vh,vi,vj,vk,vl,vm,vn,vo,vp]
   exact h _ _ _ (i6.sel (by omega)) (i10.up (by omega)) i11
  refine wp_cut (fun x:Bool×XT×List Sel×List (List Sel)×(List UInt8×List UInt8×Bool×Int×List Sel)×List Stp=>x.2=((ps',all.name,all.types,okv),loc,rest,(S.as,S.name,S.one,S.id,S.kids),sts)∧((nm=qn∧∀ x∈sels,F_l7First (ps',qn,x.name)=some X.part)→x.1=true)) ?_ fun x ⟨e1,e2⟩=>?_
  ·have hpi:X.part.toNat<ps'.length:=by omega
   simp only [wa,wb,wc,wd,we,vw,vx,vv,vy,vz,vb,vc,vd,vu,ve,vf,vg,vh,vi,vj,vk,vl,vm,vn,vo,vp]
   refine ⟨fun _=>⟨by simp,fun hnq=>⟨hp0,hpi,local_wp (hA.ch.sm _ (List.getElem_mem hpi)) (by omega) fun b hq=>absurd hq.1 hnq⟩⟩,fun hne=>fun hq=>?_⟩
   obtain ⟨hq1,hq2⟩:=hq
   subst hq1
   rw [next_query,hq2 S hSm] at hr
   exact hne (by simpa using hr.symm)
  obtain ⟨b,x2⟩:=x
  dsimp only at e1 e2
  subst e1
  dsimp only
  rw [wc]
  refine ⟨fun _=>?_,fun hb=>?_⟩
  ·rw [wb]
   refine get_wp (p:=⟨all.name,all.types⟩) hA.sm (by omega) ?_
   change wp (gd _ (bindD (F_l3Key _) fun x_4=>gd _ (bindD (F_l8Plan_split n (at',(getF all nm S.name).1.of,S.kids,way++[x_4],_,sts)) _))) _
   rw [wa]
   refine ⟨by simp only [vc]; omega,?_⟩
   rw [wb]
   refine key3_wp ?_
   generalize (if (Sel.mk S.as S.name S.one S.id S.kids).as=[] then (Sel.mk S.as S.name S.one S.id S.kids).name else (Sel.mk S.as S.name S.one S.id S.kids).as)=ky
   rw [wa,wb]
   refine ⟨by simp only [vc,vs,vt]; omega,?_⟩
   have hbig2:(i+1).toNat * T≤3 * T:=Nat.mul_le_mul (by omega) (Nat.le_refl _)
   refine hs s5 c3 (hv.ext i11) (by simp only [vr,vs,vt]; omega) i10 (by omega) fun l ok' steps' k1 k2 k3=>?_
   simp only [wa,wb,wc,wd,we,vw,vx,vv,vy,vz,vb,vc,vd,vu,ve,vf,vg,vh,vi,vj,vk,vl,vm,vn,vo,vp,vs,vt]
   refine ⟨by omega,by omega,⟨by omega,by omega,?_,i7,fun to l' hl'=>?_,i9,?_,i11.trans k3⟩,by omega⟩
   ·have e:(i+1).toNat=i.toNat+1:=by omega
    rw [e]
    exact i6.app k1
   ·obtain ⟨q1,q2⟩:=i8 to l' hl'
    exact ⟨by omega,q2⟩
   ·exact k2.up (by omega)
  ·have hri:r.toNat<rest.length:=by omega
   rw [wa,wb,we]
   refine ⟨by simp only [vb,vc]; omega,hri,?_⟩
   obtain ⟨q1,q2⟩:=i8 r.toNat _ (List.getElem?_eq_getElem hri)
   generalize hR:rest[r.toNat]'hri=R at q1 q2
   have hset:List.set (R++[Sel.mk [] [] false 0 []]) R.length (Sel.mk S.as S.name S.one S.id S.kids)=R++[S]:=by simp
   simp only [wa,wb,wc,wd,we,vw,vx,vv,vy,vz,vb,vc,vd,vu,ve,vf,vg,vh,vi,vj,vk,vl,vm,vn,vo,vp,vs,vt,vr,Int.toNat_natCast,hset,List.length_set]
   refine ⟨by omega,⟨by omega,by omega⟩,by omega,⟨by omega,by omega⟩,⟨by omega,by omega⟩,⟨by omega,by omega,i6.up (by omega),i7,fun to l' hl'=>?_,fun hq=>?_,i10.up (by omega),i11⟩,by omega⟩
   ·rw [List.getElem?_set] at hl'
    split at hl'
    ·rename_i e
     cases hl'
     refine ⟨by simp only [vr,vs,vt]; omega,fun y hy=>?_⟩
     rcases List.mem_append.1 hy with hy | hy
     ·rw [← e]; exact q2 y hy
     ·obtain rfl:=List.mem_singleton.1 hy
      refine ⟨hSm,fun hq=>?_⟩
      subst hq
      rw [next_query] at hr
      rw [hr,← e]
      congr 1
      omega
    ·obtain ⟨q3,q4⟩:=i8 to l' hl'
     exact ⟨by omega,q4⟩
   ·have:=e2 hq
    rw [hb] at this; cases this
 ·simp only [wd,vz,vw]
  rw [wb]
  have hi:i.toNat=sels.length:=by omega
  refine wp_loop (fun s:List Sel×Int×XT×List Stp=>0≤s.2.1∧s.2.1≤rest.length∧s.2.2.1.1=ps'∧s.2.2.1.2.1=all.name∧s.2.2.1.2.2.1=all.types∧LocK k (3+301 * s.2.1.toNat) s.1∧Stps (m+3 * T+s.2.1.toNat * E) s.2.2.2∧Ext steps s.2.2.2) (fun s=>rest.length - s.2.1.toNat)
   ⟨by simp,by simp,rfl,rfl,rfl,i6.up (by simp; omega),i10.up (by simp; omega),i11⟩ ?_
  rintro ⟨loc2,u,⟨ps2,an2,ats2,ok2⟩,sts2⟩ ⟨j1,j2,j3,j4,j5,j6,j7,j8⟩
  dsimp only at j1 j2 j3 j4 j5 j6 j7 j8
  subst j3 j4 j5
  have j7l:=j7.len
  have hstep2:(u+1).toNat * E=u.toNat * E+E:=by
   have e:(u+1).toNat=u.toNat+1:=by omega
   rw [e,Nat.add_mul]; omega
  have hbig2:u.toNat * E≤4 * E:=Nat.mul_le_mul (by omega) (Nat.le_refl _)
  dsimp only
  rw [wc]
  simp only [vc,vd]
  refine ⟨fun hlt3=>?_,fun hge3=>?_⟩
  ·have hui:u.toNat<rest.length:=by omega
   have hbig3:(u+1).toNat * E≤4 * E:=Nat.mul_le_mul (by omega) (Nat.le_refl _)
   rw [wa,wb,we]
   refine ⟨by simpa using j1,hui,?_⟩
   refine wp_cut (fun x:List Sel×XT×List Stp=>x.2.1.1=ps2∧x.2.1.2.1=all.name∧x.2.1.2.2.1=all.types∧LocK k (3+301 * (u+1).toNat) x.1∧Stps (m+3 * T+(u+1).toNat * E) x.2.2∧Ext steps x.2.2) ?_ fun x ⟨y1,y2,y3,y4,y5,y6⟩=>?_
   ·rw [wc]
    refine ⟨fun hpos=>?_,fun _=>?_⟩
    ·rw [wa,wb,we]
     refine ⟨by simpa using j1,hui,?_⟩
     obtain ⟨q1,q2⟩:=i8 u.toNat _ (List.getElem?_eq_getElem hui)
     have hRm:rest[u.toNat]'hui∈rest:=List.getElem_mem hui
     generalize rest[u.toNat]'hui=R at q1 q2 hpos hRm
     have hRne:R≠[]:=fun e=>by rw [e] at hpos; simp at hpos
     rcases mode' with hq | ⟨hf,hE⟩
     ·exact absurd (i9 hq R hRm) hRne
     ·rw [wb]
      refine hf ⟨by omega,fun s hs=>hsel.2 s (q2 s hs).1⟩ hRne (fun s hs=>hck s (q2 s hs).1) (hv.ext j8) j1 (by omega) (fun hq s hs=>?_) (by omega) j6 (by omega) j7 (by omega) fun loc' ok' steps' k1 k2 k3=>?_
      ·have:=(q2 s hs).2 hq
       rw [this,Int.toNat_of_nonneg j1]
      ·rw [wd]
       exact ⟨rfl,rfl,rfl,k1.up (by omega),k2.up (by omega),j8.trans k3⟩
    ·rw [wd]
     exact ⟨rfl,rfl,rfl,j6.up (by omega),j7.up (by omega),j8⟩
   ·simp only [wa,wb,wc,wd,we,vw,vx,vv,vy,vz,vb,vc,vd,vu,ve,vf,vg,vh,vi,vj,vk,vl,vm,vn,vo,vp]
    exact ⟨by omega,⟨by omega,by omega,y1,y2,y3,y4,y5,y6⟩,by omega⟩
  ·simp only [wa,wb,wc,wd,we,vw,vx,vv,vy,vz,vb,vc,vd,vu,ve,vf,vg,vh,vi,vj,vk,vl,vm,vn,vo,vp]
   exact h _ _ _ (j6.sel (by omega)) (j7.up (by omega)) j8
end Go.Fw
namespace Go.Fw
open Go
theorem own_wp {ps:List Part}{all:Part}(hA:PA ps all){n k:Nat}{at':Int}{nm:List UInt8}{sels:List Sel}{way:List (List UInt8)}{ok:Bool}{steps:List Stp}{m:Nat}{Q:List Sel×XT×List Stp→Prop}
  (hs:SplitOk ps all n k)(hsel:SelD (k+1) sels)(hck:CkOk all (k+1) nm sels)(hv:VAt ps.length steps at')(hway:way.length+(k+1)≤50)(hst:Stps m steps)(hm:m+3 * TT k≤1000000000000)
  (h:∀ l ok' steps',LocK k 3 l→Stps (m+3 * TT k) steps'→Ext steps steps'→Q (l,(ps,all.name,all.types,ok'),steps')) :
  wp (F_l8Plan_own (n+1) (at',nm,sels,way,(ps,all.name,all.types,ok),steps)) Q:=by
 have hL:LIM=1099511627776:=rfl
 have hsl:=hsel.len
 generalize hTk:TT k=T at hm h
 rw [F_l8Plan_own]
 dsimp only
 rw [wb]
 refine wp_loop (fun s:Int×XT×List Sel×List Stp=>0≤s.1∧s.1≤sels.length∧s.2.1.1=ps∧s.2.1.2.1=all.name∧s.2.1.2.2.1=all.types∧LocK k s.1.toNat s.2.2.1∧Stps (m+s.1.toNat * T) s.2.2.2∧Ext steps s.2.2.2) (fun s=>sels.length - s.1.toNat)
  ⟨by simp,by simp,rfl,rfl,rfl,⟨by simp,by simp⟩,by simpa using hst,.refl _⟩ ?_
 rintro ⟨i,⟨ps',an,ats,okv⟩,loc,sts⟩ ⟨i1,i2,i3,i4,i5,i6,i10,i11⟩
 dsimp only at i1 i2 i3 i4 i5 i6 i10 i11
 subst i3 i4 i5
 have hstep:(i+1).toNat * T=i.toNat * T+T:=by
  have e:(i+1).toNat=i.toNat+1:=by omega
  rw [e,Nat.add_mul]; omega
 have hbig:i.toNat * T≤3 * T:=Nat.mul_le_mul (by omega) (Nat.le_refl _)
 have i6l:=i6.len
 dsimp only
 rw [wc]
 simp only [vc,vd]
 refine ⟨fun hlt2=>?_,fun hge=>?_⟩
 ·have hii:i.toNat<sels.length:=by omega
  have hbig2:(i+1).toNat * T≤3 * T:=Nat.mul_le_mul (by omega) (Nat.le_refl _)
  rw [wa,wb,we]
  refine ⟨by simpa using i1,hii,?_⟩
  have hSm:=List.getElem_mem hii
  generalize sels[i.toNat]'hii=S at hSm
  obtain ⟨j,hj,s1,s2,s3,s4,s5⟩:=hsel.get hSm
  obtain rfl:j=k:=by omega
  obtain ⟨c1,c2,c3⟩:=hck S hSm
  rw [wb]
  refine get_wp (p:=⟨all.name,all.types⟩) hA.sm (by omega) ?_
  change wp (gd _ (bindD (F_l3Key _) fun x_4=>gd _ (bindD (F_l8Plan_split n (at',(getF all nm S.name).1.of,S.kids,way++[x_4],_,sts)) _))) _
  rw [wa]
  refine ⟨by simp only [vc]; omega,?_⟩
  rw [wb]
  refine key3_wp ?_
  generalize (if (Sel.mk S.as S.name S.one S.id S.kids).as=[] then (Sel.mk S.as S.name S.one S.id S.kids).name else (Sel.mk S.as S.name S.one S.id S.kids).as)=ky
  rw [wa,wb]
  refine ⟨by simp only [vc,vs,vt]; omega,?_⟩
  refine hs s5 c3 (hv.ext i11) (by simp only [vr,vs,vt]; omega) i10 (by omega) fun l ok' steps' k1 k2 k3=>?_
  simp only [wa,wb,wc,wd,we,vw,vx,vv,vy,vz,vb,vc,vd,vu,ve,vf,vg,vh,vi,vj,vk,vl,vm,vn,vo,vp,vs,vt]
  refine ⟨by omega,by omega,⟨by omega,by omega,?_,k2.up (by omega),i11.trans k3⟩,by omega⟩
  have e:(i+1).toNat=i.toNat+1:=by omega
  rw [e]
  exact i6.app k1
 ·simp only [wa,wb,wc,wd,we,vw,vx,vv,vy,vz,vb,vc,vd,vu,ve,vf,vg,vh,vi,vj,vk,vl,vm,vn,vo,vp]
  exact h _ _ _ (i6.up (by omega)) (i10.up (by omega)) i11
theorem SplitOk.mono {ps:List Part}{all:Part}{n k:Nat}(h:SplitOk ps all n k):SplitOk ps all (n+1) k:=by
 intro at' nm sels way ok steps m Q h1 h2 h3 h4 h5 h6 h7
 obtain ⟨r,e,q⟩:=h (Q:=Q) h1 h2 h3 h4 h5 h6 h7
 exact ⟨r,(plan8_mono n).1 _ _ e,q⟩
theorem app_at {steps:List Stp}{s:Stp}{r:Int}(hr:r=steps.length):r.toNat<(steps++[s]).length∧(steps++[s])[r.toNat]? = some s:=by
 subst hr
 simp
theorem further_ok {ps:List Part}{all:Part}(hA:PA ps all){n k:Nat}(hs:SplitOk ps all n k)(hk:k≤5):FurtherOk ps all (n+2) k:=by
 intro at' to nm sels way loc ok steps m L Q hsel hne hck hv ht0 ht1 hfst hway hloc hLL hst hm h
 have hL:LIM=1099511627776:=rfl
 have hsl:=hsel.len
 have hT2:=TT_pos k
 have hT:=TT_succ k
 have hstl:=hst.len
 rw [F_l8Plan_further]
 dsimp only
 rw [wc]
 simp only [ve,vg]
 refine ⟨fun hq=>?_,fun hq=>?_⟩
 ·subst hq
  rw [wb]
  refine step_wp (by omega) (by simp) (by omega) fun r hr=>?_
  obtain ⟨a1,a2⟩:=app_at (s:=⟨to,way,qn,[],[],[]⟩) hr
  have hst1:Stps (m+1) (steps++[⟨to,way,qn,[],[],[]⟩]):=hst.app ⟨by simp; omega,by simp,by simp,.nil _ _⟩
  dsimp only
  rw [wb]
  refine split_core (E:=0) hA hs hsel hck ⟨by omega,_,a2,ht0,ht1⟩ (by omega) hst1 (by omega) (.inl ⟨rfl,fun s hs x hx=>?_⟩) fun l ok' steps' k1 k2 k3=>?_
  ·rw [a2] at hx
   cases hx
   exact hfst rfl s hs
  obtain ⟨y,hy1,hy2⟩:=k3 _ _ a2
  obtain ⟨hy3,hy4⟩:=List.getElem?_eq_some_iff.1 hy1
  rw [wa,wb,we]
  refine ⟨by simp only [vb,vc]; omega,hy3,?_⟩
  rw [wd]
  have hyo:=k2.ok _ (List.getElem_mem hy3)
  have hz:=k2.set r.toNat (s:={ part:=(steps'[r.toNat]'hy3).part,way:=(steps'[r.toNat]'hy3).way,type:=(steps'[r.toNat]'hy3).type,sels:=l,after:=(steps'[r.toNat]'hy3).after,brings:=(steps'[r.toNat]'hy3).brings }) ⟨hyo.way,hyo.after,hyo.brings,k1.up' (j:=10) (by omega)⟩
  exact h _ _ _ (hloc.up (by omega)) (hz.up (by omega)) (((Ext.app steps _).trans k3).trans (Ext.set _ _ hy3 _ rfl))
 ·obtain ⟨S0,hS0⟩:=List.exists_mem_of_ne_nil _ hne
  obtain ⟨t0,ht0m,ht0n,_,_,_⟩:=getF_ok (hck S0 hS0).1
  rw [wb]
  have hat:=hA.sm.types
  refine type_wp (p:=⟨all.name,all.types⟩) (by show all.types.length≤_; omega) fun r hr=>?_
  have hr0:0≤r:=hr.some ⟨t0,ht0m,ht0n⟩
  have hri:r.toNat<all.types.length:=(hr.at hr0).1
  rw [wa,wb,we]
  refine ⟨by simpa using hr0,hri,?_⟩
  have hTk:=(hA.sm.type _ (List.getElem_mem hri)).key
  generalize all.types[r.toNat]'hri=T0 at hTk
  rw [wb]
  have hll:=hloc.len
  refine add8_wp (by omega) fun loc1 l1 l2=>?_
  have hloc1:=hloc.of rfl l1 l2
  have hlt:=hv.lt
  have hv0:=hv.1
  rw [wa,wb,we]
  refine ⟨by simp only [vb,vc]; omega,hlt,?_⟩
  obtain ⟨hp0,hp1⟩:=hv.part hlt
  generalize steps[at'.toNat]'hlt=X at hp0 hp1
  have hps:=hA.ch.few
  rw [wb]
  refine wp_loop (fun s:List (List UInt8)×Int×XT×List Int×List Stp=>0≤s.2.1∧s.2.1≤sels.length∧s.2.2=((ps,all.name,all.types,ok),[at'],steps)∧s.1.length≤100 * s.2.1.toNat∧∀ w∈s.1,w.length≤100) (fun s=>sels.length - s.2.1.toNat)
   ⟨by simp,by simp,rfl,by simp,by simp⟩ ?_
  rintro ⟨br,i,rst⟩ ⟨i1,i2,i3,i4,i5⟩
  dsimp only at i1 i2 i3 i4 i5
  subst i3
  dsimp only
  rw [wc]
  simp only [vc,vd]
  refine ⟨fun hlt2=>?_,fun hge=>?_⟩
  ·have hti:to.toNat<ps.length:=by omega
   have hP:=hA.ch.sm _ (List.getElem_mem hti)
   rw [wa,wb,we]
   refine ⟨by simpa using ht0,hti,?_⟩
   rw [wa,wb,we]
   refine ⟨by simpa using i1,by omega,?_⟩
   rw [wb]
   refine get_wp hP (by omega) ?_
   have hF:SmF (getF (ps[to.toNat]'hti) nm (sels[i.toNat]'(by omega)).name).1:=getF_sm hP
   generalize getF (ps[to.toNat]'hti) nm (sels[i.toNat]'(by omega)).name=fo at hF
   have hFn:=hF.needs
   rw [wb]
   refine wp_loop (fun u:List (List UInt8)×Int=>0≤u.2∧u.2≤fo.1.needs.length∧u.1.length≤100 * i.toNat+u.2.toNat∧∀ w∈u.1,w.length≤100) (fun u=>fo.1.needs.length - u.2.toNat) ⟨by simp,by simp,by simpa using i4,i5⟩ fun u ⟨j1,j2,j3,j4⟩=>?_
   simp only [wa,wb,wc,wd,we,vw,vx,vv,vy,vz,vb,vc,vd,vu,ve,vf,vg,vh,vi,vj,vk,vl,vm,vn,vo,vp]
   refine ⟨fun hlt3=>⟨j1,by omega,words_wp (by omega) fun wl w1 w2=>⟨by omega,⟨by omega,by omega,by omega,fun w hw=>?_⟩,by omega⟩⟩,fun _=>⟨by omega,⟨by omega,by omega,by omega,j4⟩,by omega⟩⟩
   rcases w2 w hw with hw | rfl
   ·exact j4 w hw
   ·exact hF.need _ (List.getElem_mem _)
  simp only [wd,vz]
  rw [wb]
  refine wp_loop (fun s:List Sel×Int×XT×List Int×List Stp=>0≤s.2.1∧s.2.1≤br.length∧s.2.2.1=(ps,all.name,all.types,ok)∧LocK k (L+1+s.2.1.toNat) s.1∧s.2.2.2.1.length≤1+s.2.1.toNat∧Stps (m+s.2.1.toNat) s.2.2.2.2∧Ext steps s.2.2.2.2) (fun s=>br.length - s.2.1.toNat)
   ⟨by simp,by simp,rfl,hloc1.up (by simp),by simp,hst.up (by simp),.refl _⟩ ?_
  rintro ⟨lc,u,XX,af,sts⟩ ⟨j1,j2,j3,j4,j5,j6,j7⟩
  dsimp only at j1 j2 j3 j4 j5 j6 j7
  subst j3
  have j4l:=j4.len
  have j6l:=j6.len
  dsimp only
  rw [wc]
  simp only [vc,vd]
  refine ⟨fun hlt3=>?_,fun hge3=>?_⟩
  ·have hpi:X.part.toNat<ps.length:=by omega
   have hui:u.toNat<br.length:=by omega
   have hwl:=i5 _ (List.getElem_mem hui)
   rw [wa,wb,we]
   refine ⟨by simpa using hp0,hpi,?_⟩
   rw [wa,wb,we]
   refine ⟨by simpa using j1,hui,?_⟩
   generalize hWd:br[u.toNat]'hui=wrd at hwl
   rw [wb]
   refine local_wp (hA.ch.sm _ (List.getElem_mem hpi)) (by omega) fun lb=>?_
   rw [wc]
   refine ⟨fun _=>?_,fun _=>?_⟩
   ·rw [wa,wb,we]
    refine ⟨by simpa using j1,hui,?_⟩
    rw [hWd,wb]
    refine need8_wp (by omega) ?_
    rw [wb]
    refine add8_wp (by omega) fun lc2 m1 m2=>?_
    simp only [wa,wb,wc,wd,we,vw,vx,vv,vy,vz,vb,vc,vd,vu,ve,vf,vg,vh,vi,vj,vk,vl,vm,vn,vo,vp]
    exact ⟨by omega,⟨by omega,by omega,(j4.of rfl m1 m2).up (by omega),by omega,j6.up (by omega),j7⟩,by omega⟩
   ·rw [wa,wb,we]
    refine ⟨by simpa using j1,hui,?_⟩
    rw [wb]
    refine first_wp hA.ch.sm (by omega) (by omega) fun fr _ _=>?_
    rw [wb]
    refine step_wp (by omega) (by simp) (by omega) fun q hq2=>?_
    obtain ⟨a1,a2⟩:=app_at (s:=⟨fr,way,nm,[],[at'],[]⟩) hq2
    have hst1:Stps (m+u.toNat+1) (sts++[⟨fr,way,nm,[],[at'],[]⟩]):=j6.app ⟨by simp; omega,by simp,by simp,.nil _ _⟩
    dsimp only
    rw [wa,wb,we]
    refine ⟨by simpa using j1,hui,?_⟩
    rw [hWd,wb]
    refine need8_wp (by omega) ?_
    rw [wa,wb,we]
    refine ⟨by simp only [vb,vc]; omega,a1,?_⟩
    have hyo:=hst1.ok _ (List.getElem_mem a1)
    have hw1:SelW 2000 10 [Sel.mk ([95]++wrd) wrd false 0 []]:=by
     refine ⟨by simp,fun s hs=>?_⟩
     obtain rfl:=List.mem_singleton.1 hs
     exact .nil _ _
    generalize hY:(sts++[⟨fr,way,nm,[],[at'],[]⟩])[q.toNat]'a1=Y at hyo
    have hz:=hst1.set q.toNat (s:={ part:=Y.part,way:=Y.way,type:=Y.type,sels:=[Sel.mk ([95]++wrd) wrd false 0 []],after:=Y.after,brings:=Y.brings }) ⟨hyo.way,hyo.after,hyo.brings,hw1⟩
    have hE3:=(j7.trans (Ext.app _ _)).trans (Ext.set _ _ a1 { part:=Y.part,way:=Y.way,type:=Y.type,sels:=[Sel.mk ([95]++wrd) wrd false 0 []],after:=Y.after,brings:=Y.brings } (by rw [hY]))
    simp only [wa,wb,wc,wd,we,vw,vx,vv,vy,vz,vb,vc,vd,vu,ve,vf,vg,vh,vi,vj,vk,vl,vm,vn,vo,vp,vs,vt]
    refine ⟨by omega,by omega,⟨by omega,by omega,j4.up (by omega),by simp only [vr,vs,vt]; omega,hz.up (by omega),hE3⟩,by omega⟩
  simp only [wd,vz]
  rw [wb]
  refine step_wp (by omega) (by omega) (by omega) fun q hq2=>?_
  obtain ⟨a1,a2⟩:=app_at (s:=⟨to,way,nm,[],af,[]⟩) hq2
  have hst1:Stps (m+u.toNat+1) (sts++[⟨to,way,nm,[],af,[]⟩]):=j6.app ⟨by simp; omega,by show af.length≤_; omega,by simp,.nil _ _⟩
  dsimp only
  have hE1:Ext steps (sts++[⟨to,way,nm,[],af,[]⟩]):=j7.trans (Ext.app _ _)
  generalize sts++[({ part:=to,way:=way,type:=nm,sels:=[],after:=af,brings:=[] } : Stp)]=Z at a1 a2 hst1 hE1 ⊢
  rw [wa,wb,we]
  refine ⟨by simp only [vb,vc]; omega,a1,?_⟩
  have hyo:=hst1.ok _ (List.getElem_mem a1)
  have hyp:(Z[q.toNat]'a1).part=to:=by
   rw [List.getElem?_eq_getElem a1] at a2
   rw [Option.some.inj a2]
  generalize hY:Z[q.toNat]'a1=Y at hyo hyp
  have hst2:=hst1.set q.toNat (s:={ part:=Y.part,way:=Y.way,type:=Y.type,sels:=Y.sels,after:=Y.after,brings:=br }) ⟨hyo.way,hyo.after,by show br.length≤_; omega,hyo.sels⟩
  have hE2:Ext steps (Z.set q.toNat { part:=Y.part,way:=Y.way,type:=Y.type,sels:=Y.sels,after:=Y.after,brings:=br }):=hE1.trans (Ext.set _ _ a1 _ (by rw [hY]))
  have hV:VAt ps.length (Z.set q.toNat { part:=Y.part,way:=Y.way,type:=Y.type,sels:=Y.sels,after:=Y.after,brings:=br }) q:=⟨by omega,{ part:=Y.part,way:=Y.way,type:=Y.type,sels:=Y.sels,after:=Y.after,brings:=br },List.getElem?_set_self a1,by show 0≤Y.part; omega,by show Y.part<_; omega⟩
  rw [wb]
  refine own_wp hA hs hsel hck hV (by omega) hst2 (by omega) fun l ok' steps' k1 k2 k3=>?_
  have hV2:=hV.ext k3
  have hlt4:=hV2.lt
  rw [wa,wb,we]
  refine ⟨by simp only [vb,vc]; omega,hlt4,?_⟩
  rw [wd]
  have hzo:=k2.ok _ (List.getElem_mem hlt4)
  have hz:=k2.set q.toNat (s:={ part:=(steps'[q.toNat]'hlt4).part,way:=(steps'[q.toNat]'hlt4).way,type:=(steps'[q.toNat]'hlt4).type,sels:=l,after:=(steps'[q.toNat]'hlt4).after,brings:=(steps'[q.toNat]'hlt4).brings }) ⟨hzo.way,hzo.after,hzo.brings,(k1.sel (by omega)).up' (j:=10) (by omega)⟩
  exact h _ _ _ (j4.up (by omega)) (hz.up (by omega)) ((hE2.trans k3).trans (Ext.set _ _ hlt4 _ rfl))
theorem split_ok {ps:List Part}{all:Part}(hA:PA ps all)(k:Nat)(hk:k≤6):SplitOk ps all (3 * k+1) k:=by
 induction k with
 | zero =>
  intro at' nm sels way ok steps m Q hsel hck hv hway hst hm h
  have e:sels=[]:=hsel
  subst e
  exact split_nil hA.ch.few hv (h _ _ _ rfl (hst.up (by omega)) (.refl _))
 | succ k ih =>
  have ih:SplitOk ps all (3 * k+1) k:=@ih (by omega)
  intro at' nm sels way ok steps m Q hsel hck hv hway hst hm h
  have hT2:=TT_pos k
  have hT:=TT_succ k
  have hf:FurtherOk ps all (3 * k+1+2) k:=further_ok hA ih (by omega)
  have ih2:SplitOk ps all (3 * k+1+2) k:=SplitOk.mono (SplitOk.mono ih)
  exact split_core (E:=400+3 * TT k) hA ih2 hsel hck hv hway hst (by omega) (.inr ⟨hf,Nat.le_refl _⟩) fun l ok' steps' k1 k2 k3=>h _ _ _ k1 (k2.up (by omega)) k3
end Go.Fw
namespace Go.Fw
open Go
theorem smP_const:SmP 300 { name:=[101,97,115,116],types:=[{ name:=[113,117,101,114,121],key:=[],fields:=[{ name:=[117,115,101,114,115],of:=[117,115,101,114],list:=true,must:=false,far:=false,hidden:=false,shared:=false,needs:=[]:Field }]:Typ },{ name:=[117,115,101,114],key:=[105,100],fields:=[{ name:=[105,100],of:=[105,110,116],list:=false,must:=true,far:=false,hidden:=false,shared:=false,needs:=[]:Field },{ name:=[110,97,109,101],of:=[116,101,120,116],list:=false,must:=false,far:=false,hidden:=false,shared:=false,needs:=[]:Field }]:Typ }]:Part }:=by
 have hf:∀ f:Field,f.name.length≤100→f.of.length≤100→f.needs=[]→SmF f:=fun f h1 h2 h3=>⟨h1,h2,by rw [h3]; simp,by rw [h3]; simp⟩
 refine ⟨by simp,by simp,fun t ht=>?_⟩
 simp only [List.mem_cons,List.not_mem_nil,or_false] at ht
 rcases ht with rfl | rfl
 ·refine ⟨by simp,by simp,by simp,fun f h=>?_⟩
  simp only [List.mem_cons,List.not_mem_nil,or_false] at h
  subst h
  exact hf _ (by simp) (by simp) rfl
 ·refine ⟨by simp,by simp,by simp,fun f h=>?_⟩
  simp only [List.mem_cons,List.not_mem_nil,or_false] at h
  rcases h with rfl | rfl
  ·exact hf _ (by simp) (by simp) rfl
  ·exact hf _ (by simp) (by simp) rfl
theorem known_wp {b:List Int}{p:Int}{m:Nat}{Q:List Part×List Int×Int→Prop}(hR:Rd b p m)(hm:m≤100000000000)(h:∀ ps b' p',Ch ps→Rd b' p' (m+2400)→Q (ps,b',p')):wp (F_l11Known (b,p)) Q:=by
 rw [F_l11Known_eq]; unfold B_l11Known; dsimp only
 rw [wb]
 refine wp_loop (fun s:Int×List Int×Int=>0≤s.1∧s.1≤6∧Rd s.2.1 s.2.2 (m+400 * s.1.toNat)) (fun s=>6 - s.1.toNat) ⟨by simp,by simp,hR.up (by simp)⟩ fun s ⟨i1,i2,i3⟩=>?_
 rw [wc]
 simp only [vc,vd]
 refine ⟨fun hlt=>?_,fun _=>?_⟩
 ·rw [wb]
  refine parts_wp i3 (by omega) fun ps b' p' n hn1 hn2 hps hR2=>?_
  have hc:Ch ps:=⟨by have:=hps.len; omega,hps.sm⟩
  rw [wb]
  refine reach_wp hc fun r=>?_
  simp only [wa,wb,wc,wd,we,vw,vx,vv,vy,vz,vb,vc,vd,vu,ve,vf,vg,vh,vi,vj,vk,vl,vm,vn,vo,vp]
  exact ⟨fun _=>h _ _ _ hc (hR2.up (by omega)),fun _=>⟨by omega,⟨by omega,by omega,hR2.up (by omega)⟩,by omega⟩⟩
 ·simp only [wa,wb,wc,wd,we,vw,vx,vv,vy,vz,vb,vc,vd,vu,ve,vf,vg,vh,vi,vj,vk,vl,vm,vn,vo,vp]
  refine h _ _ _ ⟨by simp,fun q hq=>?_⟩ (i3.up (by omega))
  obtain rfl:=List.mem_singleton.1 hq
  exact smP_const
theorem all11_wp {ps:List Part}{Q:Part→Prop}(hc:Ch ps)(h:∀ p,Dr p→1≤p.types.length→Q p):wp (F_l11All ps) Q:=by
 rw [F_l11All_eq]; unfold B_l11All
 rw [wb]
 refine chart_wp hc fun r hr=>?_
 rw [wc]
 simp only [vf,vh,ne_eq]
 refine ⟨fun _=>?_,fun h0=>?_⟩
 ·rw [wb]
  refine ⟨_,fieldsL_eq,?_⟩
  dsimp only
  rw [wd]
  refine h _ ⟨⟨by simp,by rw [fieldsL_len]; omega,fun t ht=>?_⟩,fun t ht=>?_⟩ (by rw [fieldsL_len]; omega)
  ·obtain ⟨a1,a2,a3,a4,a5⟩:=fieldsL_ok ht
   exact ⟨a1,a2,by omega,fun f hf=>(a5 f hf).1⟩
  ·have hp:(fieldsL.all fun t=>decide (1≤t.fields.length))=true:=by kernel_rfl
   simpa using List.all_eq_true.1 hp t ht
 ·rw [wd]
  obtain ⟨a,b,c⟩:=hr h0
  exact h _ ⟨b,fun t ht=>(a.type t ht).pos⟩ a.pos
theorem ask_wp {p:Part}{b:List Int}{q:Int}{m:Nat}{Q:List Sel×List Int×Int→Prop}(hp:Dr p)(h1:1≤p.types.length)(hR:Rd b q m)(hm:m≤100000000000)(h:∀ l b' q',SelD 5 l→Rd b' q' (m+200000)→Q (l,b',q')):wp (F_l11Ask (p,b,q)) Q:=by
 have h45:20 * 4 ^ 5=20480:=rfl
 rw [F_l11Ask_eq]; unfold B_l11Ask; dsimp only
 rw [wb]
 refine wp_lim sels_mono (sels_wpn hp 5 1 _ _ _ m (by omega) (by omega) (by omega) hR (by omega) fun l b' q' hl hR'=>?_)
 rw [h45] at hR'
 rw [wb]
 refine wp_loop (fun s:List Sel×Int×List Int×Int=>0≤s.2.1∧s.2.1≤4∧SelD 5 s.1∧Rd s.2.2.1 s.2.2.2 (m+20480 * (s.2.1.toNat+1))) (fun s=>4 - s.2.1.toNat) ⟨by simp,by simp,hl,hR'.up (by simp)⟩ fun s ⟨i1,i2,i3,i4⟩=>?_
 refine wp_cut (fun x=>x=true→s.2.1<4) ?_ fun x hx=>?_
 ·simp only [wa,wb,wc,wd,we,vw,vx,vv,vy,vz,vb,vc,vd,vu,ve,vf,vg,vh,vi,vj,vk,vl,vm,vn,vo,vp,vq,and_self]
  exact fun hlt=>askok_wp (by omega) i3 fun r _=>⟨fun _=>hlt,fun _=>askcheck_wp hp.sm (by omega) i3 fun _ _ _=>hlt⟩
 rw [wc]
 refine ⟨fun hxt=>?_,fun _=>?_⟩
 ·have hlt:=hx hxt
  rw [wb]
  refine wp_lim sels_mono (sels_wpn hp 5 1 _ _ _ (m+20480 * (s.2.1.toNat+1)) (by omega) (by omega) (by omega) i4 (by omega) fun l b' q' hl hR'=>?_)
  rw [h45] at hR'
  simp only [wa,wb,wc,wd,we,vw,vx,vv,vy,vz,vb,vc,vd,vu,ve,vf,vg,vh,vi,vj,vk,vl,vm,vn,vo,vp]
  exact ⟨by omega,⟨by omega,by omega,hl,hR'.up (by omega)⟩,by omega⟩
 ·simp only [wd,vz]
  rw [wb]
  refine askok_wp (by omega) i3 fun r _=>?_
  rw [wc]
  refine ⟨fun _=>?_,fun _=>?_⟩
  ·rw [wb,we]
   refine ⟨by simp; omega,?_⟩
   have hT:=hp.sm.type _ (List.getElem_mem (show (0:Int).toNat<p.types.length by simp; omega))
   have hTp:=hp.pos _ (List.getElem_mem (show (0:Int).toNat<p.types.length by simp; omega))
   rw [wb,we]
   have hTp':(0:Int).toNat<(p.types[(0:Int).toNat]'(by simp; omega)).fields.length:=by have:=hTp; simp at this ⊢; omega
   refine ⟨hTp',?_⟩
   have hF:=hT.field _ (List.getElem_mem hTp')
   rw [wd]
   refine h _ _ _ ⟨by simp,fun s hs=>?_⟩ (i4.up (by omega))
   obtain rfl:=List.mem_singleton.1 hs
   exact ⟨hF.name,by simp,by simp,by simp,.nil _⟩
  ·rw [wd]
   exact h _ _ _ i3 (i4.up (by omega))
theorem trip_wp {b:List Int}{p:Int}{m:Nat}{Q:(List Part×List Sel)×List Int×Int→Prop}(hR:Rd b p m)(hm:m≤10000000000)(h:∀ ps l b' p',Ch ps→SelD 5 l→Rd b' p' (m+300000)→Q ((ps,l),b',p')):wp (F_l11Trip (b,p)) Q:=by
 rw [F_l11Trip_eq]; unfold B_l11Trip; dsimp only
 rw [wb]
 refine known_wp hR (by omega) fun ps b1 p1 hc hR1=>?_
 rw [wb]
 refine all11_wp hc fun A hA hA1=>?_
 rw [wb]
 refine ask_wp hA hA1 hR1 (by omega) fun l b2 p2 hl hR2=>?_
 rw [wd]
 exact h _ _ _ _ hc hl (hR2.up (by omega))
theorem make8_wp {ps:List Part}{all:Part}{sels:List Sel}{Q:List Stp×Bool→Prop}(hA:PA ps all)(hs:SelD 5 sels)(h1:1≤sels.length)(hck:CkOk all 5 qn sels)(h:∀ st ok,Stps 3000000000 st→Q (st,ok)):wp (F_l8Make (ps,all,sels)) Q:=by
 have hps:=hA.ch.few
 have hT:TT 5=2097152000:=rfl
 rw [F_l8Make_eq]; unfold B_l8Make; dsimp only
 rw [wb,we]
 refine ⟨by simp; omega,?_⟩
 rw [wb]
 refine first_wp hA.ch.sm (by omega) (by omega) fun r hr1 hr2=>?_
 rw [wc,wd]
 simp only [vc,vd]
 refine ⟨fun _=>h _ _ ⟨by simp,by simp⟩,fun hr0=>?_⟩
 rw [wb]
 refine step_wp (by simp) (by simp) (by simp) fun q hq=>?_
 obtain ⟨a1,a2⟩:=app_at (s:=⟨r,[],qn,[],[],[]⟩) hq
 have hst1:Stps 1 ([]++[({ part:=r,way:=[],type:=qn,sels:=[],after:=[],brings:=[] } : Stp)]):=Stps.app (m:=0) ⟨by simp,by simp⟩ ⟨by simp,by simp,by simp,.nil _ _⟩
 dsimp only
 rw [wb]
 have hV:VAt ps.length ([]++[({ part:=r,way:=[],type:=qn,sels:=[],after:=[],brings:=[] } : Stp)]) q:=⟨by omega,_,a2,by show 0≤r; omega,hr2⟩
 refine wp_lim (fun n d=>(plan8_mono n).1 d) (split_ok hA 5 (by omega) hs hck hV (by simp) hst1 (by omega) fun l ok' steps' k1 k2 k3=>?_)
 have hV2:=hV.ext k3
 have hlt:=hV2.lt
 rw [wa,wb,we]
 refine ⟨by simp only [vb,vc]; omega,hlt,?_⟩
 have hzo:=k2.ok _ (List.getElem_mem hlt)
 have hz:=k2.set q.toNat (s:={ part:=(steps'[q.toNat]'hlt).part,way:=(steps'[q.toNat]'hlt).way,type:=(steps'[q.toNat]'hlt).type,sels:=l,after:=(steps'[q.toNat]'hlt).after,brings:=(steps'[q.toNat]'hlt).brings }) ⟨hzo.way,hzo.after,hzo.brings,k1.up' (j:=10) (by omega)⟩
 rw [wc,wd,wd]
 exact ⟨fun _=>h _ _ ⟨by simp,by simp⟩,fun _=>h _ _ (hz.up (by omega))⟩
theorem copy8_wp {st:List Stp}{Q:List Stp→Prop}{m:Nat}(hm:m≤1000000000000)(hs:Stps m st)(h:∀ r,Stps m r→Q r):wp (F_l8Copy st) Q:=by
 have hL:LIM=1099511627776:=rfl
 have hl:=hs.len
 rw [F_l8Copy_eq]; unfold B_l8Copy
 rw [wb]
 refine wp_loop (fun s:Int×List Stp=>0≤s.1∧s.1≤st.length∧Stps s.1.toNat s.2) (fun s=>st.length - s.1.toNat) ⟨by simp,by simp,⟨by simp,by simp⟩⟩ fun s ⟨i1,i2,i3⟩=>?_
 have i3l:=i3.len
 rw [wc]
 simp only [vc,vd]
 refine ⟨fun hlt=>?_,fun _=>?_⟩
 ·rw [wa,wb,we]
  refine ⟨by simpa using i1,by omega,?_⟩
  have hO:=hs.ok _ (List.getElem_mem (show s.1.toNat<st.length by omega))
  generalize st[s.1.toNat]'(by omega)=S at hO
  have h1:=hO.way; have h2:=hO.after; have h3:=hO.brings
  rw [wa,wb]
  refine ⟨by simp only [vc]; omega,?_⟩
  refine wp_lim copy3_mono (copyW_wpn (by omega) 10 _ hO.sels ?_)
  simp only [wa,wb,wc,wd,we,vw,vx,vv,vy,vz,vb,vc,vd,vu,ve,vf,vg,vh,vi,vj,vk,vl,vm,vn,vo,vp,vs,vt]
  have e:(s.1+1).toNat=s.1.toNat+1:=by omega
  exact ⟨by omega,by omega,by omega,by omega,⟨by omega,by omega,by rw [e]; exact i3.app ⟨hO.way,hO.after,hO.brings,hO.sels⟩⟩,by omega⟩
 ·simp only [wa,wb,wc,wd,we,vw,vx,vv,vy,vz,vb,vc,vd,vu,ve,vf,vg,vh,vi,vj,vk,vl,vm,vn,vo,vp]
  exact h _ (i3.up (by omega))
theorem route_wp {ps:List Part}{sels:List Sel}{Q:Bool×List Stp→Prop}(hc:Ch ps)(hs:SelD 5 sels)(h:∀ ok st,Stps 3000000000 st→Q (ok,st)):wp (F_RouteMake (ps,sels)) Q:=by
 rw [F_RouteMake_eq]; unfold B_RouteMake; dsimp only
 rw [wb]
 refine chart_wp hc fun r hr=>?_
 refine wp_cut (fun x=>x=false→PA ps r.1.all∧1≤sels.length∧CkOk r.1.all 5 qn sels) ?_ fun x hx=>?_
 ·simp only [wa,wb,wc,wd,we,vw,vx,vv,vy,vz,vb,vc,vd,vu,ve,vf,vg,vh,vi,vj,vk,vl,vm,vn,vo,vp,vq,and_self]
  refine fun h0=>?_
  obtain ⟨a,b,c⟩:=hr h0
  exact askcheck_wp b (by omega) hs fun f hf e=>by
   obtain ⟨d1,d2,d3⟩:=hf e
   exact ⟨⟨hc,a,b⟩,d2,d3⟩
 rw [wc,wd]
 refine ⟨fun _=>h _ _ ⟨by simp,by simp⟩,fun hxf=>?_⟩
 obtain ⟨d1,d2,d3⟩:=hx hxf
 rw [wb]
 refine make8_wp d1 hs d2 d3 fun st ok hst=>?_
 rw [wb]
 refine copy8_wp (by omega) hst fun st' hst'=>?_
 rw [wd]
 exact h _ _ hst'
theorem steps11_wp {b:List Int}{p:Int}{m:Nat}{Q:(List Int×Int)×List Stp→Prop}(hR:Rd b p m)(hm:m≤10000000000)(h:∀ st b' p',Stps 3000000000 st→Rd b' p' (m+300000)→Q ((b',p'),st)):wp (F_l11Steps (b,p)) Q:=by
 rw [F_l11Steps_eq]; unfold B_l11Steps; dsimp only
 rw [wb]
 refine trip_wp hR hm fun ps l b' p' hc hl hR'=>?_
 rw [wb]
 refine route_wp hc hl fun ok st hst=>?_
 rw [wd]
 exact h _ _ _ hst hR'
theorem draw_wp {d:List Int}{Q:List Stp→Prop}(hb:∀ x∈d,0≤x∧x≤255)(h:∀ st,Stps 3000000000 st→Q st):wp (F_DrawRouteDepth d) Q:=by
 rw [F_DrawRouteDepth_eq]; unfold B_DrawRouteDepth
 rw [wb]
 refine open_wp hb fun b hR=>?_
 rw [wb]
 refine steps11_wp hR (by omega) fun st b' p' hst hR'=>?_
 refine wp_cut (fun x:Bool×(List Int×Int)×List Stp=>x.2.2=st∧Rd x.2.1.1 x.2.1.2 300001∧(x.1=true→0<st.length)) ?_ fun x ⟨e1,e2,e3⟩=>?_
 ·simp only [wa,wb,wc,wd,we,vw,vx,vv,vy,vz,vb,vc,vd,vu,ve,vf,vg,vh,vi,vj,vk,vl,vm,vn,vo,vp,vq,and_self]
  exact ⟨fun hp=>pick_wp hR' (by omega) fun _ _ _ hR2=>⟨hR2.up (by omega),fun _=>by omega⟩,fun _=>hR'.up (by omega)⟩
 refine wp_cut (fun x:List Stp=>Stps 3000000000 x) ?_ fun y hy=>?_
 ·rw [wc]
  refine ⟨fun hx=>?_,fun _=>?_⟩
  ·have hpos:=e3 hx
   rw [e1]
   rw [wb]
   refine pick_wp e2 (by omega) fun v hv _ hR3=>?_
   have hv:=hv (by omega)
   rw [wa,wa,wb,we]
   refine ⟨i64B_of (by omega) (by omega),by simp only [vb,vc]; omega,hpos,?_⟩
   have hO:=hst.ok _ (List.getElem_mem hpos)
   have hz:=hst.set 0 (s:={ part:=st[0].part,way:=st[0].way,type:=st[0].type,sels:=st[0].sels,after:=[v - 1],brings:=st[0].brings }) ⟨hO.way,by simp,hO.brings,hO.sels⟩
   rw [wb]
   refine pick_wp hR3 (by omega) fun w hw _ hR4=>?_
   have hw:=hw (by omega)
   rw [wa,wa,wb,we]
   refine ⟨i64B_of (by omega) (by omega),by simp only [vb,vc,List.length_set]; omega,by rw [List.length_set]; exact hpos,?_⟩
   rw [wd]
   have hO2:=hz.ok _ (List.getElem_mem (show 0<(List.set st 0 _).length by rw [List.length_set]; exact hpos))
   exact hz.set 0 ⟨hO2.way,hO2.after,hO2.brings,hO2.sels⟩
  ·rw [wd,e1]
   exact hst
 ·rw [wd]
  exact h _ hy
end Go.Fw
namespace Go.Fw
open Go
def Srt (l:List Int):Prop:=l.Pairwise (· < ·)
theorem Srt.ext:∀ {a b:List Int},Srt a→Srt b→(∀ x,x∈a↔x∈b)→a=b
 | [],[],_,_,_=>rfl
 | [],y :: b,_,_,h=>by have:=(h y).2 (by simp); simp at this
 | x :: a,[],_,_,h=>by have:=(h x).1 (by simp); simp at this
 | x :: a,y :: b,ha,hb,h=>by
  obtain ⟨h1,h2⟩:=List.pairwise_cons.1 ha
  obtain ⟨h3,h4⟩:=List.pairwise_cons.1 hb
  have e:x=y:=by
   rcases List.mem_cons.1 ((h x).1 (by simp)) with e | e
   ·exact e
   rcases List.mem_cons.1 ((h y).2 (by simp)) with e' | e'
   ·exact e'.symm
   have:=h3 _ e; have:=h1 _ e'; omega
  subst e
  rw [Srt.ext h2 h4 fun z=>?_]
  have hz:=h z
  simp only [List.mem_cons] at hz
  constructor
  ·intro hz'
   rcases hz.1 (.inr hz') with rfl | h'
   ·have:=h1 _ hz'; omega
   ·exact h'
  ·intro hz'
   rcases hz.2 (.inr hz') with rfl | h'
   ·have:=h3 _ hz'; omega
   ·exact h'
theorem srt_get {zs:List Int}(h:zs.Pairwise (·≤·)){i j:Nat}(hij:i≤j)(hj:j<zs.length):zs[i]'(by omega)≤zs[j]:=by
 rcases Nat.lt_or_ge i j with h' | h'
 ·exact List.pairwise_iff_getElem.1 h i j (by omega) hj h'
 ·obtain rfl:i=j:=by omega
  exact Int.le_refl _
theorem compact_srt {zs:List Int}(h:zs.Pairwise (·≤·)):Srt (Lib.compact zs)∧∀ x,x∈Lib.compact zs↔x∈zs:=by
 have g:∀ j (hj:j<zs.length),zs.toArray[j]! = zs[j]:=fun j hj=>by simp [hj]
 constructor
 ·unfold Lib.compact Lib.compactUpTo Srt
  rw [List.pairwise_map]
  refine (List.Pairwise.filter _ List.pairwise_lt_range).imp_of_mem fun {a b} ha hb hab=>?_
  obtain ⟨ha1,ha2⟩:=List.mem_filter.1 ha
  obtain ⟨hb1,hb2⟩:=List.mem_filter.1 hb
  have ha1:=List.mem_range.1 ha1
  have hb1:=List.mem_range.1 hb1
  have hne:zs.toArray[b]!≠zs.toArray[b - 1]!:=by
   intro e
   rw [Lib.keeps_neg (by omega) e] at hb2
   cases hb2
  rw [g b hb1,g (b - 1) (by omega)] at hne
  rw [g a ha1,g b hb1]
  have h1:=srt_get h (show a≤b - 1 by omega) (by omega)
  have h2:=srt_get h (show b - 1≤b by omega) hb1
  omega
 ·intro x
  refine ⟨compact_mem zs x,fun hx=>?_⟩
  obtain ⟨j,hj,rfl⟩:=List.getElem_of_mem hx
  have:∀ k,∀ i (hi:i<zs.length),i≤k→zs[i]∈Lib.compact zs:=by
   intro k
   induction k with
   | zero =>
    intro i hi hk
    obtain rfl:i=0:=by omega
    unfold Lib.compact Lib.compactUpTo
    refine List.mem_map.2 ⟨0,List.mem_filter.2 ⟨List.mem_range.2 hi,Lib.keeps_lt_one _ 0 (by omega)⟩,g 0 hi⟩
   | succ k ih =>
    intro i hi hk
    by_cases hle:i≤k
    ·exact ih i hi hle
    ·by_cases hne:zs.toArray[i]!≠zs.toArray[i - 1]!
     ·unfold Lib.compact Lib.compactUpTo
      exact List.mem_map.2 ⟨i,List.mem_filter.2 ⟨List.mem_range.2 hi,Lib.keeps_pos hne⟩,g i hi⟩
     ·have e:zs.toArray[i]! = zs.toArray[i - 1]!:=Decidable.not_not.1 hne
      rw [g i hi,g (i - 1) (by omega)] at e
      rw [e]
      exact ih (i - 1) (by omega) (by omega)
  exact this j j hj (Nat.le_refl _)
structure PartsOf (st:List Stp)(l:List Int):Prop where
 srt:Srt l
 mem:∀ x,x∈l↔∃ s∈st,s.part=x
 len:l.length≤st.length
theorem impl_parts_wp {st:List Stp}{Q:List Int→Prop}(hl:st.length≤3000000000)(h:∀ l,PartsOf st l→Q l):wp (F_impl_RouteParts st) Q:=by
 have hL:LIM=1099511627776:=rfl
 rw [F_impl_RouteParts_eq]; unfold B_impl_RouteParts
 rw [wb]
 refine wp_loop (fun s:Int×List Int=>0≤s.1∧s.1≤st.length∧s.2=(st.take s.1.toNat).map fun x=>x.part) (fun s=>st.length - s.1.toNat) ⟨by simp,by simp,by simp⟩ fun s ⟨i1,i2,i3⟩=>?_
 rw [wc]
 simp only [vc,vd]
 refine ⟨fun hlt=>?_,fun hge=>?_⟩
 ·rw [wa,wb,we]
  refine ⟨by simpa using i1,by omega,?_⟩
  simp only [wa,wb,wc,wd,we,vw,vx,vv,vy,vz,vb,vc,vd,vu,ve,vf,vg,vh,vi,vj,vk,vl,vm,vn,vo,vp]
  have e1:s.2.length=s.1.toNat:=by rw [i3]; simp; omega
  have e2:(s.1+1).toNat=s.1.toNat+1:=by omega
  refine ⟨by rw [e1]; simp; omega,by omega,⟨by omega,by omega,?_⟩,by omega⟩
  rw [e2,List.take_succ_eq_append_getElem (by omega),List.map_append,i3]
  rfl
 ·have e:s.1.toNat=st.length:=by omega
  rw [e,List.take_length] at i3
  simp only [wd,vz]
  rw [i3]
  have hsort:∀ zs:List Int,zs.length<4611686018427387904→F_slices_Sort_int_int zs=some (zs.mergeSort fun x y=>decide (x≤y)):=fun zs hz=>by
   rw [F_slices_Sort_int_int_eq]; unfold B_slices_Sort_int_int gd; simp [hz]
  have hcomp:∀ zs:List Int,zs.length≤9223372036854775807→F_slices_Compact_int_int zs=some (Lib.compact zs):=fun zs hz=>by
   rw [F_slices_Compact_int_int_eq]; unfold B_slices_Compact_int_int gd; simp [hz]
  have hclone:∀ zs:List Int,zs.length * 8≤140737488355328→F_slices_Clone_int_int zs=some (zs,zs):=fun zs hz=>by
   rw [F_slices_Clone_int_int_eq]; unfold B_slices_Clone_int_int gd; simp [hz]
  have hlm:((st.map fun x=>x.part).mergeSort fun x y=>decide (x≤y)).length=st.length:=by rw [List.length_mergeSort]; simp
  have hpw:((st.map fun x=>x.part).mergeSort fun x y=>decide (x≤y)).Pairwise (·≤·):=by
   have:=List.pairwise_mergeSort (le:=fun x y:Int=>decide (x≤y)) (fun a b c h1 h2=>by simp at *; omega) (fun a b=>by simp; omega) (st.map fun x=>x.part)
   exact this.imp fun h=>of_decide_eq_true h
  have hmm:∀ x,x∈((st.map fun x=>x.part).mergeSort fun x y=>decide (x≤y))↔∃ s∈st,s.part=x:=fun x=>by rw [List.mem_mergeSort,List.mem_map]
  rw [wb]
  refine ⟨_,hsort _ (by simp; omega),?_⟩
  generalize (st.map fun x=>x.part).mergeSort (fun x y=>decide (x≤y))=zs at *
  rw [wa,wb]
  refine ⟨by simp [hlm],_,hcomp _ (by omega),?_⟩
  have hcl:=compact_length_le zs
  obtain ⟨c1,c2⟩:=compact_srt hpw
  generalize Lib.compact zs=ys at *
  dsimp only
  rw [wb]
  refine ⟨_,hclone _ (by omega),?_⟩
  dsimp only
  rw [wa,wd]
  exact ⟨by simp,h _ ⟨c1,fun x=>(c2 x).trans (hmm x),by omega⟩⟩
theorem spec_parts_wp {st:List Stp}{Q:List Int→Prop}(hl:st.length≤3000000000)(h:∀ l,PartsOf st l→Q l):wp (F_RouteParts st) Q:=by
 have hL:LIM=1099511627776:=rfl
 rw [F_RouteParts_eq]; unfold B_RouteParts
 rw [wb]
 refine wp_loop (fun s:List Int×Int=>0≤s.2∧s.2≤st.length∧PartsOf (st.take s.2.toNat) s.1) (fun s=>st.length - s.2.toNat) ⟨by simp,by simp,⟨List.Pairwise.nil,by simp,by simp⟩⟩ fun s ⟨i1,i2,i3⟩=>?_
 obtain ⟨out,i⟩:=s
 dsimp only at i1 i2 i3 ⊢
 have hol:=i3.len
 rw [List.length_take] at hol
 rw [wc]
 simp only [vc,vd]
 refine ⟨fun hlt=>?_,fun hge=>?_⟩
 ·have hi:i.toNat<st.length:=by omega
  generalize hp:(st[i.toNat]'hi).part=p
  rw [wb]
  refine wp_loop (fun k:Int=>0≤k∧k≤out.length∧∀ (j:Nat)(hj:j<out.length),j<k.toNat→out[j]<p) (fun k=>out.length - k.toNat) ⟨by simp,by simp,by simp⟩ fun k ⟨k1,k2,k3⟩=>?_
  refine wp_cut (fun b=>(b=true→k<out.length)∧(∀ hk:k.toNat<out.length,(b=true↔out[k.toNat]<p))) ?_ fun b ⟨hb1,hb2⟩=>?_
  ·rw [wc]
   simp only [vc,vd]
   refine ⟨fun hkl=>?_,fun hkl=>?_⟩
   ·rw [wa,wb,we]
    refine ⟨by simpa using k1,by omega,?_⟩
    rw [wa,wb,we]
    refine ⟨by simpa using i1,hi,?_⟩
    rw [wd,hp]
    exact ⟨fun _=>hkl,fun _=>by simp⟩
   ·rw [wd]
    exact ⟨fun h=>(by cases h),fun hk=>absurd hk (by omega)⟩
  rw [wc]
  refine ⟨fun hbt=>?_,fun hbf=>?_⟩
  ·have hkl:=hb1 hbt
   simp only [wa,wb,wc,wd,we,vw,vx,vv,vy,vz,vb,vc,vd,vu,ve,vf,vg,vh,vi,vj,vk,vl,vm,vn,vo,vp]
   refine ⟨by omega,⟨by omega,by omega,fun j hj hj2=>?_⟩,by omega⟩
   rcases Nat.lt_or_ge j k.toNat with h' | h'
   ·exact k3 j hj h'
   ·obtain rfl:j=k.toNat:=by omega
    exact (hb2 hj).1 hbt
  ·have hge:∀ hk:k.toNat<out.length,p≤out[k.toNat]:=fun hk=>by
    have:=hb2 hk
    rw [hbf] at this
    simp at this
    exact this
   simp only [wd,vz]
   have e2:(i+1).toNat=i.toNat+1:=by omega
   have hmem:∀ x,(∃ s∈st.take (i+1).toNat,s.part=x)↔(x∈out∨x=p):=fun x=>by
    rw [i3.mem,e2,List.take_succ_eq_append_getElem hi]
    simp only [List.mem_append,List.mem_singleton]
    constructor
    ·rintro ⟨s,h1 | rfl,rfl⟩
     ·exact .inl ⟨s,h1,rfl⟩
     ·exact .inr hp
    ·rintro (⟨s,h1,rfl⟩ | rfl)
     ·exact ⟨s,.inl h1,rfl⟩
     ·exact ⟨_,.inr rfl,hp⟩
   refine wp_cut (fun b=>(b=true→∀ hk:k.toNat<out.length,out[k.toNat]≠p)∧(b=false→∃ hk:k.toNat<out.length,out[k.toNat]=p)) ?_ fun b ⟨q1,q2⟩=>?_
   ·rw [wc]
    simp only [ve,vg]
    refine ⟨fun e=>?_,fun ne=>?_⟩
    ·rw [wd]
     exact ⟨fun _ hk=>absurd hk (by omega),fun h=>(by cases h)⟩
    ·rw [wa,wb,we]
     refine ⟨by simpa using k1,by omega,?_⟩
     rw [wa,wb,we]
     refine ⟨by simpa using i1,hi,?_⟩
     rw [wd,hp]
     simp only [vf,vh]
     exact ⟨fun h _=>h,fun h=>⟨by omega,h⟩⟩
   refine wp_cut (fun l=>PartsOf (st.take (i+1).toNat) l) ?_ fun l hlp=>?_
   ·have hk0:k.toNat≤out.length:=by omega
    rw [wc]
    refine ⟨fun hbt=>?_,fun hbf=>?_⟩
    ·have t1:List.take (Int.toNat k - Int.toNat 0) (List.drop (Int.toNat 0) out)=out.take k.toNat:=by simp
     have t2:List.take (Int.toNat (↑out.length:Int) - Int.toNat k) (List.drop (Int.toNat k) out)=out.drop k.toNat:=List.take_of_length_le (by simp)
     rw [t1,t2]
     simp only [wa,wb,wc,wd,we,vw,vx,vv,vy,vz,vb,vc,vd,vu,ve,vf,vg,vh,vi,vj,vk,vl,vm,vn,vo,vp,hp]
     refine ⟨⟨⟨by omega,k1⟩,by omega⟩,by rw [List.length_take]; omega,by simpa using i1,hi,by rw [List.length_take]; simp; omega,⟨⟨k1,by omega⟩,by omega⟩,by simp; omega,?_⟩
     have hlast:∀ x∈out.drop k.toNat,p<x:=fun x hx=>by
      obtain ⟨j,hj,rfl⟩:=List.getElem_of_mem hx
      rw [List.getElem_drop]
      rw [List.length_drop] at hj
      have hk:k.toNat<out.length:=by omega
      have h1:=hge hk
      have h2:=q1 hbt hk
      have h3:out[k.toNat]≤out[k.toNat+j]'(by omega):=srt_get (i3.srt.imp fun h=>Int.le_of_lt h) (by omega) (by omega)
      omega
     have hfirst:∀ x∈out.take k.toNat,x<p:=fun x hx=>by
      obtain ⟨j,hj,rfl⟩:=List.getElem_of_mem hx
      rw [List.length_take] at hj
      rw [List.getElem_take]
      exact k3 j (by omega) (by omega)
     refine ⟨?_,fun x=>?_,?_⟩
     ·unfold Srt
      rw [List.append_assoc,List.pairwise_append]
      refine ⟨i3.srt.sublist (List.take_sublist _ _),?_,fun a ha b hb=>?_⟩
      ·rw [List.singleton_append,List.pairwise_cons]
       exact ⟨hlast,i3.srt.sublist (List.drop_sublist _ _)⟩
      ·rcases List.mem_append.1 hb with hb | hb
       ·obtain rfl:=List.mem_singleton.1 hb
        exact hfirst a ha
       ·have:=hfirst a ha; have:=hlast b hb; omega
     ·rw [hmem]
      have:x∈out↔x∈out.take k.toNat∨x∈out.drop k.toNat:=by rw [← List.mem_append,List.take_append_drop]
      rw [this]
      simp only [List.mem_append,List.mem_singleton]
      constructor
      ·rintro ((h | h) | h)
       ·exact .inl (.inl h)
       ·exact .inr h
       ·exact .inl (.inr h)
      ·rintro ((h | h) | h)
       ·exact .inl (.inl h)
       ·exact .inr h
       ·exact .inl (.inr h)
     ·simp only [vr,List.length_take,List.length_drop,List.length_singleton]; omega
    ·obtain ⟨hk,e⟩:=q2 hbf
     rw [wd]
     refine ⟨i3.srt,fun x=>?_,by rw [List.length_take]; omega⟩
     rw [hmem]
     refine ⟨.inl,fun h=>h.elim id fun h=>?_⟩
     rw [h,← e]
     exact List.getElem_mem hk
   ·simp only [wa,wb,wc,wd,we,vw,vx,vv,vy,vz,vb,vc,vd,vu,ve,vf,vg,vh,vi,vj,vk,vl,vm,vn,vo,vp]
    exact ⟨by omega,⟨by omega,by omega,hlp⟩,by omega⟩
 ·have e:i.toNat=st.length:=by omega
  rw [e,List.take_length] at i3
  simp only [wd,vz]
  exact h _ i3
theorem ints_wp {a:List Int}{Q:Bool→Prop}(hl:a.length≤3000000000)(h:Q true):wp (F_laws_wpInts (a,a)) Q:=by
 rw [F_laws_wpInts_eq]; unfold B_laws_wpInts; dsimp only
 rw [wc]
 refine ⟨fun hne=>by simp at hne,fun _=>?_⟩
 rw [wb]
 refine wp_loop (fun s:Int=>0≤s∧s≤a.length) (fun s=>a.length - s.toNat) ⟨by simp,by simp⟩ fun s ⟨i1,i2⟩=>?_
 rw [wc]
 simp only [vc,vd]
 refine ⟨fun hlt=>?_,fun hge=>?_⟩
 ·rw [wa,wb,we]
  refine ⟨by simpa using i1,by omega,?_⟩
  rw [wa,wb,we]
  refine ⟨by simpa using i1,by omega,?_⟩
  rw [wc]
  refine ⟨fun hne=>by simp at hne,fun _=>?_⟩
  simp only [wa,wb,wc,wd,we,vw,vx,vv,vy,vz,vb,vc,vd,vu,ve,vf,vg,vh,vi,vj,vk,vl,vm,vn,vo,vp]
  exact ⟨by omega,⟨by omega,by omega⟩,by omega⟩
 ·simp only [wa,wb,wc,wd,we,vw,vx,vv,vy,vz,vb,vc,vd,vu,ve,vf,vg,vh,vi,vj,vk,vl,vm,vn,vo,vp]
  exact h
theorem inP_wp {a:List Int}{n:Int}{Q:Bool→Prop}(hl:a.length≤3000000000)(hn:n∈a)(h:Q true):wp (F_laws_wpIn (a,n)) Q:=by
 rw [F_laws_wpIn_eq]; unfold B_laws_wpIn; dsimp only
 rw [wb]
 refine wp_loop (fun s:Int=>0≤s∧s≤a.length∧∀ (j:Nat)(hj:j<a.length),j<s.toNat→a[j]≠n) (fun s=>a.length - s.toNat) ⟨by simp,by simp,by simp⟩ fun s ⟨i1,i2,i3⟩=>?_
 rw [wc]
 simp only [vc,vd]
 refine ⟨fun hlt=>?_,fun hge=>?_⟩
 ·rw [wa,wb,we]
  refine ⟨by simpa using i1,by omega,?_⟩
  rw [wc]
  simp only [wa,wb,wc,wd,we,vw,vx,vv,vy,vz,vb,vc,vd,vu,ve,vf,vg,vh,vi,vj,vk,vl,vm,vn,vo,vp]
  refine ⟨fun _=>h,fun hne=>⟨by omega,⟨by omega,by omega,fun j hj hj2=>?_⟩,by omega⟩⟩
  rcases Nat.lt_or_ge j s.toNat with h' | h'
  ·exact i3 j hj h'
  ·obtain rfl:j=s.toNat:=by omega
   exact hne
 ·obtain ⟨j,hj,e⟩:=List.getElem_of_mem hn
  exact absurd e (i3 j hj (by omega))
theorem drawparts_wp {d:List Int}{Q:List Stp→Prop}(hb:∀ x∈d,0≤x∧x≤255)(h:∀ st,Stps 3000000000 st→Q st):wp (F_DrawRouteParts d) Q:=by
 rw [F_DrawRouteParts_eq]; unfold B_DrawRouteParts
 rw [wb]
 refine draw_wp hb fun st hst=>?_
 rw [wd]
 exact h st hst
theorem lawparts_wp {d:List Int}(hb:∀ x∈d,0≤x∧x≤255):wp (F_laws_FnRouteParts d) fun r=>r=true:=by
 rw [F_laws_FnRouteParts_eq]; unfold B_laws_FnRouteParts
 rw [wc,wd]
 refine ⟨fun _=>rfl,fun _=>?_⟩
 rw [wb]
 refine drawparts_wp hb fun st hst=>?_
 have hl:=hst.len
 rw [wb]
 refine impl_parts_wp hl fun L hL=>?_
 rw [wb]
 refine spec_parts_wp hl fun L' hL'=>?_
 obtain rfl:L=L':=hL.srt.ext hL'.srt fun x=>(hL.mem x).trans (hL'.mem x).symm
 have hll:=hL.len
 rw [wb]
 refine ints_wp (by omega) ?_
 rw [wc]
 refine ⟨fun h=>(by cases h),fun _=>?_⟩
 rw [wb]
 refine wp_loop (fun s:Int=>0≤s∧s≤L.length) (fun s=>L.length - s.toNat) ⟨by simp,by simp⟩ fun s ⟨i1,i2⟩=>?_
 rw [wc]
 simp only [vc,vd]
 refine ⟨fun hlt=>?_,fun hge=>?_⟩
 ·have hs:s.toNat<L.length:=by omega
  rw [wb]
  refine wp_loop (fun u:Bool×Int=>0≤u.2∧u.2≤st.length∧(u.1=false→∀ (j:Nat)(hj:j<st.length),j<u.2.toNat→(st[j]).part≠L[s.toNat])) (fun u=>st.length - u.2.toNat) ⟨by simp,by simp,by simp⟩ fun u ⟨j1,j2,j3⟩=>?_
  obtain ⟨fd,k⟩:=u
  dsimp only at j1 j2 j3 ⊢
  rw [wc]
  simp only [vc,vd]
  refine ⟨fun hlt2=>?_,fun hge2=>?_⟩
  ·have hk:k.toNat<st.length:=by omega
   refine wp_cut (fun b=>b=false→fd=false∧(st[k.toNat]'hk).part≠L[s.toNat]) ?_ fun b hb=>?_
   ·rw [wc,wd]
    refine ⟨fun _ h=>(by cases h),fun hf=>?_⟩
    rw [wa,wb,we]
    refine ⟨by simpa using j1,hk,?_⟩
    rw [wa,wb,we]
    refine ⟨by simpa using i1,hs,?_⟩
    rw [wd]
    simp only [vg]
    exact fun h=>⟨hf,h⟩
   ·simp only [wa,wb,wc,wd,we,vw,vx,vv,vy,vz,vb,vc,vd,vu,ve,vf,vg,vh,vi,vj,vk,vl,vm,vn,vo,vp]
    refine ⟨by omega,⟨by omega,by omega,fun hbf j hj hj2=>?_⟩,by omega⟩
    obtain ⟨h1,h2⟩:=hb hbf
    rcases Nat.lt_or_ge j k.toNat with h' | h'
    ·exact j3 h1 j hj h'
    ·obtain rfl:j=k.toNat:=by omega
     exact h2
  ·simp only [wd,vz]
   have hfd:fd=true:=by
    cases fd with
    | true=>rfl
    | false =>
     obtain ⟨t,ht,e⟩:=(hL.mem _).1 (List.getElem_mem hs)
     obtain ⟨j,hj,rfl⟩:=List.getElem_of_mem ht
     exact absurd e (j3 rfl j hj (by omega))
   subst hfd
   refine wp_cut (fun b=>b=false) ?_ fun b hb=>?_
   ·rw [wc]
    refine ⟨fun h=>(by cases h),fun _=>?_⟩
    rw [wc,wd]
    simp only [vc,vd]
    refine ⟨fun hpos=>?_,fun _=>trivial⟩
    rw [wa,wa,wb,we,vu]
    refine ⟨by omega,by simp; omega,by omega,?_⟩
    rw [wa,wb,we]
    refine ⟨by simpa using i1,hs,?_⟩
    rw [wd]
    have:=List.pairwise_iff_getElem.1 hL.srt (s - 1).toNat s.toNat (by omega) hs (by omega)
    simp only [vd]
    omega
   ·subst hb
    simp only [wa,wb,wc,wd,we,vw,vx,vv,vy,vz,vb,vc,vd,vu,ve,vf,vg,vh,vi,vj,vk,vl,vm,vn,vo,vp]
    exact ⟨by omega,⟨by omega,by omega⟩,by omega⟩
 ·simp only [wd,vz,vw]
  rw [wb]
  refine wp_loop (fun s:Int=>0≤s∧s≤st.length) (fun s=>st.length - s.toNat) ⟨by simp,by simp⟩ fun s ⟨i1,i2⟩=>?_
  rw [wc]
  simp only [vc,vd]
  refine ⟨fun hlt=>?_,fun hge=>?_⟩
  ·have hs:s.toNat<st.length:=by omega
   rw [wa,wb,we]
   refine ⟨by simpa using i1,hs,?_⟩
   rw [wb]
   refine inP_wp (by omega) ((hL.mem _).2 ⟨_,List.getElem_mem hs,rfl⟩) ?_
   rw [wc]
   refine ⟨fun h=>(by cases h),fun _=>?_⟩
   simp only [wa,wb,wc,wd,we,vw,vx,vv,vy,vz,vb,vc,vd,vu,ve,vf,vg,vh,vi,vj,vk,vl,vm,vn,vo,vp]
   exact ⟨by omega,⟨by omega,by omega⟩,by omega⟩
  ·simp only [wd,vz,vw]
end Go.Fw
