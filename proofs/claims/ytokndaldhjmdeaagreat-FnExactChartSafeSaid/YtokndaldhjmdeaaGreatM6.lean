/- A part of the proof: what stands for the program, its functions, and what they come to. -/
import Derived.Shelf.Strings.Builder1
import Derived.Lib.UnsafeStr
import Derived.Shelf.Slices.Clone
import Derived.Shelf.Strings.OnBuilder
import Derived.Test.YtokndaldhjmdeaaGreatProg
import Derived.KernelRfl
import Derived.Test.YtokndaldhjmdeaaGreatM5
import Derived.Test.YtokndaldhjmdeaaGreatM4
set_option linter.all false
/- What (*strings.Builder).String does to the memory, in full. -/
namespace Go.Proofs
open Go.Shelf Go.RowKit
variable {P : Program} {ρ : Ren}

set_option maxHeartbeats 1000000 in
set_option maxRecDepth 100000 in
theorem Any.String_exact (L : Lays.n169 P ρ) (X : Builder.Extra P ρ) (b g cap : Nat) (l : List UInt8) (cur : Array Value) (w : World) (hb : w.heap[b]? = some (.cells #[.pointer (some ⟨b, 0, none⟩), .slice (some ⟨g, 0, none⟩) l.length cap] (ρ.t 72) (0, 0)))
    (hg : w.heap[g]? = some (.cells cur (ρ.t 5) (0, 0))) (h0 : l ≠ []) (hc : l.length ≤ cap) (hcur : cap ≤ cur.size) (h63 : l.length ≤ 9223372036854775807) (hcell : ∀ (j : Nat) (hj : j < l.length), cur[j]? = some (.int .u8 l[j].toNat)) :
    Calls P (ρ.f 169) #[.pointer (some ⟨b, 0, none⟩)] w fun e w' => e = .returned (.string ⟨l.toArray⟩) ∧ w' = w.drew.freeze ⟨g, 0, none⟩ l.length := by
  have hl : 0 < l.length := List.length_pos_iff.2 h0
  have hbd : w.drew.heap[b]? = some (.cells #[.pointer (some ⟨b, 0, none⟩), .slice (some ⟨g, 0, none⟩) l.length cap] (ρ.t 72) (0, 0)) := hb
  have hgd : w.drew.heap[g]? = some (.cells cur (ρ.t 5) (0, 0)) := hg
  have c1 : w.drew.cell? ⟨b, 1, none⟩ = some (.slice (some ⟨g, 0, none⟩) l.length cap) := by rw [Lib.cell_of_heap hbd]; rfl
  have hSD : (Builtin.unsafeSliceData_ #[(ρ.t 37)] (ρ.t 127) #[.slice (some ⟨g, 0, none⟩) l.length cap]).run P w.drew = .ok (.pointer (some ⟨g, 0, none⟩)) w.drew :=
    Lib.run_unsafeSliceData_row _ _ _ _ _ _ (by omega)
  have hUS : (Builtin.unsafeString_ #[(ρ.t 127), (ρ.t 3)] (ρ.t 9) #[.pointer (some ⟨g, 0, none⟩), .int .i64 l.length]).run P w.drew = .ok (.string ⟨l.toArray⟩) (w.drew.freeze ⟨g, 0, none⟩ l.length) :=
    Lib.run_unsafeString_row w.drew (ρ.t 127) (ρ.t 3) (ρ.t 9) (ρ.t 5) L.t127 X.cellsByte g cur.size (by simp [World.shape?, hgd]) l h0 (by omega) h63 fun j x hx => by
      obtain ⟨hj, rfl⟩ := List.getElem?_eq_some_iff.1 hx
      rw [show (⟨g, 0, none⟩ : Addr).add j = ⟨g, 0 + j, none⟩ by unfold Addr.add; split <;> simp_all]
      have := hcell j hj
      simp only [World.cell?, hgd]
      simpa using this
  have mixed := L.mixed
  have t72 := L.t72; have a72 := L.a72; have z72 := L.z72; have v72 := L.v72; have u72 := run_underlying L.t72
  have t70 := L.t70; have a70 := L.a70; have z70 := L.z70; have v70 := L.v70; have u70 := run_underlying L.t70
  have t37 := L.t37; have a37 := L.a37; have z37 := L.z37; have v37 := L.v37; have u37 := run_underlying L.t37
  have t127 := L.t127; have a127 := L.a127; have z127 := L.z127; have v127 := L.v127; have u127 := run_underlying L.t127
  have t3 := L.t3; have a3 := L.a3; have z3 := L.z3; have v3 := L.v3; have u3 := run_underlying L.t3
  have t9 := L.t9; have a9 := L.a9; have z9 := L.z9; have v9 := L.v9; have u9 := run_underlying L.t9
  have t5 := X.t5; have a5 := X.a5; have z5 := X.z5; have v5 := X.v5; have u5 := run_underlying X.t5
  go_enter L.f169, Body.n169_ntmps ρ
  go_wp2
  go_region_o
  all_goals (go_wp2; go_ret; exact ⟨rfl, rfl⟩)

theorem froze_all (w : World) (g n : Nat) : (w.drew.freeze ⟨g, 0, none⟩ n).os = w.os ∧ (w.drew.freeze ⟨g, 0, none⟩ n).tape = w.tape ∧ (w.drew.freeze ⟨g, 0, none⟩ n).output = w.output ∧ w.heap.size ≤ (w.drew.freeze ⟨g, 0, none⟩ n).heap.size ∧ ∀ k, k ≠ g → k < w.heap.size → (w.drew.freeze ⟨g, 0, none⟩ n).heap[k]? = w.heap[k]? := by
  unfold World.freeze World.drew
  split
  · exact ⟨rfl, rfl, rfl, Nat.le_refl _, fun _ _ _ => rfl⟩
  · refine ⟨rfl, rfl, rfl, by simp, fun k hk _ => ?_⟩
    simp [Array.getElem?_modify, Ne.symm hk]
theorem Any.clone_strs (L : Lays2.n16 P ρ) (b o n c : Nat) (xs : List (List UInt8)) (w : World) (hn : n = xs.length) (hb : n * 16 ≤ 140737488355328) (hc : ∀ (j : Nat) (hj : j < xs.length), w.cell? ⟨b, o + j, none⟩ = some (.string ⟨xs[j].toArray⟩)) :
    Calls P (ρ.f 16) #[.slice (some ⟨b, o, none⟩) n c] w fun e w' => ∃ v', e = .returned v' ∧ w'.ownsRow w.heap.size (ρ.t 9) 1 v' n (xs.map fun x => Value.string ⟨x.toArray⟩) ∧ v' ≠ .slice none 0 0 ∧ Below w.heap.size w w' := by
  subst hn
  have := Any.slices_Clone_string L b o xs.length c (xs.map fun s => ⟨s.toArray⟩) w (by simp) hb (fun j hj => by
    have hj' : j < xs.length := by simpa using hj
    rw [hc j hj']
    simp [hj'])
  rw [List.take_of_length_le (by simp), List.map_map] at this
  exact this
theorem Any.clone_ints (L : Lays2.n15 P ρ) (b o n c : Nat) (xs : List Int) (w : World) (hn : n = xs.length) (hb : n * 8 ≤ 140737488355328) (hc : ∀ (j : Nat) (hj : j < xs.length), w.cell? ⟨b, o + j, none⟩ = some (.int .i64 xs[j])) :
    Calls P (ρ.f 15) #[.slice (some ⟨b, o, none⟩) n c] w fun e w' => ∃ v', e = .returned v' ∧ w'.ownsRow w.heap.size (ρ.t 3) 1 v' n (xs.map (Value.int .i64)) ∧ v' ≠ .slice none 0 0 ∧ Below w.heap.size w w' := by
  subst hn
  have := Any.slices_Clone_int L b o xs.length c xs w (Nat.le_refl _) hb (fun j hj => by
    rw [hc j hj]
    simp [hj])
  rw [List.take_length] at this
  exact this
end Go.Proofs
/- The library's functions of this program: their texts and types, as the shelf's contracts want them. -/
namespace Go.Proofs
open Go.Shelf Go.RowKit
set_option maxRecDepth 100000
def Tryz.lays156_ren : Go.Shelf.Ren := ⟨fun | 156 => 26 | 165 => 50 | 166 => 51 | 169 => 52 | 240 => 85 | 241 => 86 | 276 => 115 | 277 => 116 | n => n, fun | 31 => 26 | 9 => 9 | 3 => 3 | 4 => 4 | 0 => 0 | 20 => 20 | 72 => 90 | 76 => 94 | 70 => 88 | 37 => 22 | 75 => 93 | 127 => 135 | 164 => 161 | 5 => 5 | 80 => 96 | n => n, fun | n => n⟩
theorem Tryz.lays156 : Go.Proofs.Lays.n156 Tryz.prog Tryz.lays156_ren := {
  mixed := by kernel_rfl
  f156 := Tryz.func26.trans (congrArg some (by kernel_rfl))
  f165 := Tryz.func50.trans (congrArg some (by kernel_rfl))
  f166 := Tryz.func51.trans (congrArg some (by kernel_rfl))
  f169 := Tryz.func52.trans (congrArg some (by kernel_rfl))
  f240 := Tryz.func85.trans (congrArg some (by kernel_rfl))
  f241 := Tryz.func86.trans (congrArg some (by kernel_rfl))
  f276 := Tryz.func115.trans (congrArg some (by kernel_rfl))
  f277 := Tryz.func116.trans (congrArg some (by kernel_rfl))
  t0 := Tryz.underlying0
  a0 := Tryz.isAgg0
  z0 := Tryz.sizeOf0
  v0 := Tryz.zeroValue0
  t3 := Tryz.underlying3
  a3 := Tryz.isAgg3
  z3 := Tryz.sizeOf3
  v3 := Tryz.zeroValue3
  t4 := Tryz.underlying4
  a4 := Tryz.isAgg4
  z4 := Tryz.sizeOf4
  v4 := Tryz.zeroValue4
  t9 := Tryz.underlying9
  a9 := Tryz.isAgg9
  z9 := Tryz.sizeOf9
  v9 := Tryz.zeroValue9
  t20 := Tryz.underlying20
  a20 := Tryz.isAgg20
  z20 := Tryz.sizeOf20
  v20 := Tryz.zeroValue20
  t31 := Tryz.underlying26
  a31 := Tryz.isAgg26
  z31 := Tryz.sizeOf26
  v31 := Tryz.zeroValue26
  t37 := Tryz.underlying22
  a37 := Tryz.isAgg22
  z37 := Tryz.sizeOf22
  v37 := Tryz.zeroValue22
  t70 := Tryz.underlying88
  a70 := Tryz.isAgg88
  z70 := Tryz.sizeOf88
  v70 := Tryz.zeroValue88
  t72 := Tryz.underlying90
  a72 := Tryz.isAgg90
  z72 := Tryz.sizeOf90
  v72 := Tryz.zeroValue90
  t75 := Tryz.underlying93
  a75 := Tryz.isAgg93
  z75 := Tryz.sizeOf93
  v75 := Tryz.zeroValue93
  t76 := Tryz.underlying94
  a76 := Tryz.isAgg94
  z76 := Tryz.sizeOf94
  v76 := Tryz.zeroValue94
  t127 := Tryz.underlying135
  a127 := Tryz.isAgg135
  z127 := Tryz.sizeOf135
  v127 := Tryz.zeroValue135
  t164 := Tryz.underlying161
  a164 := Tryz.isAgg161
  z164 := Tryz.sizeOf161
  v164 := Tryz.zeroValue161 }
theorem Tryz.Builder_Extra_156 : Builder.Extra Tryz.prog Tryz.lays156_ren := {
  sizeBuilder := by kernel_rfl
  liesBuilder := by kernel_rfl
  t5 := Tryz.underlying5
  a5 := Tryz.isAgg5
  z5 := Tryz.sizeOf5
  v5 := Tryz.zeroValue5
  infoByte := by kernel_rfl
  cellsByte := by kernel_rfl
  sizeByte := by kernel_rfl
  neB5 := by decide }
def Tryz.laysNm215_ren : Go.Shelf.Ren := ⟨fun | 15 => 49 | n => n, fun | 22 => 51 | 3 => 3 | 4 => 4 | n => n, fun | n => n⟩
theorem Tryz.laysNm215 : Go.Proofs.Lays2.n15 Tryz.prog Tryz.laysNm215_ren := {
  mixed := by kernel_rfl
  f15 := Tryz.func49.trans (congrArg some (by kernel_rfl))
  t3 := Tryz.underlying3
  a3 := Tryz.isAgg3
  z3 := Tryz.sizeOf3
  v3 := Tryz.zeroValue3
  t4 := Tryz.underlying4
  a4 := Tryz.isAgg4
  z4 := Tryz.sizeOf4
  v4 := Tryz.zeroValue4
  t22 := Tryz.underlying51
  a22 := Tryz.isAgg51
  z22 := Tryz.sizeOf51
  v22 := Tryz.zeroValue51
  i3 := by kernel_rfl }
def Tryz.laysNm216_ren : Go.Shelf.Ren := ⟨fun | 16 => 71 | n => n, fun | 24 => 26 | 9 => 9 | 4 => 4 | n => n, fun | n => n⟩
theorem Tryz.laysNm216 : Go.Proofs.Lays2.n16 Tryz.prog Tryz.laysNm216_ren := {
  mixed := by kernel_rfl
  f16 := Tryz.func71.trans (congrArg some (by kernel_rfl))
  t4 := Tryz.underlying4
  a4 := Tryz.isAgg4
  z4 := Tryz.sizeOf4
  v4 := Tryz.zeroValue4
  t9 := Tryz.underlying9
  a9 := Tryz.isAgg9
  z9 := Tryz.sizeOf9
  v9 := Tryz.zeroValue9
  t24 := Tryz.underlying26
  a24 := Tryz.isAgg26
  z24 := Tryz.sizeOf26
  v24 := Tryz.zeroValue26
  i9 := by kernel_rfl }
end Go.Proofs
namespace Go.Fw
open Go Go.Proofs
set_option linter.unusedVariables false
noncomputable def zft(d:List (List UInt8)×List UInt8):Option (List UInt8):=zCD d
noncomputable def zdL:List (List UInt8)×List UInt8->Option (List UInt8):=zah zft
theorem zij(d:List (List UInt8)×List UInt8):zdL d=zft d:=congrFun (zad zft) d
noncomputable def zhS:TE:=⟨26,[.lst .str,.str],[],.str,[],zdL⟩
theorem zrs:EOk Tryz.prog zhS:=zEH zij Tryz.call26 (fun bk o c xs sep w h1 h2 h3 h4 h5=>Any.strings_Join Tryz.lays156 Tryz.Builder_Extra_156 bk o c xs sep w h1 h2 h3 h4 h5) (fun a c sep w=>Any.strings_Join_none Tryz.lays156 Tryz.Builder_Extra_156 a c sep w)
noncomputable def zaU(d:List (List UInt8)):Option (List (List UInt8)):=gd (decide (d.length*16<=140737488355328)) (some d)
noncomputable def zaV:List (List UInt8)->Option (List (List UInt8)):=zah zaU
theorem zch(d:List (List UInt8)):zaV d=zaU d:=congrFun (zad zaU) d
noncomputable def zbz:TE:=⟨71,[.lst .str],[],(.lst .str),[],zaV⟩
theorem zgl:EOk Tryz.prog zbz:=zz5 (sz:=16) rfl zch fun xs hx=>zyr (av:=fun x=>AV.str x) (mk:=fun(x:List UInt8)=>Value.string ⟨x.toArray⟩) (ty:=Tryz.laysNm216_ren.t 9) (sz:=16) ztn (fun _=>rfl) Tryz.call71 (fun b o n c xs w hn hb hc=>Any.clone_strs Tryz.laysNm216 b o n c xs w hn hb hc) (fun n c w=>Any.slices_Clone_string_nil Tryz.laysNm216 n c w) (fun a c w=>Any.slices_Clone_string_zero Tryz.laysNm216 a c w) xs hx (by decide)
noncomputable def zaI(d:List (List UInt8)):Option (List (List UInt8)):=gd (decide (d.length*16<=140737488355328)) (some d)
noncomputable def zaJ:List (List UInt8)->Option (List (List UInt8)):=zah zaI
theorem zbK(d:List (List UInt8)):zaJ d=zaI d:=congrFun (zad zaI) d
noncomputable def za4:TE:=⟨71,[.lst .str],[],(.own 0),[.arr .str .no],zaJ⟩
theorem zeX:EOk Tryz.prog za4:=zz4 (sz:=16) zbK fun xs hx=>zz7 (av:=fun x=>AV.str x) (mk:=fun(x:List UInt8)=>Value.string ⟨x.toArray⟩) (ty:=Tryz.laysNm216_ren.t 9) (sz:=16) ztn (fun _=>rfl) (fun _=>rfl) Tryz.call71 (fun b o n c xs w hn hb hc=>Any.clone_strs Tryz.laysNm216 b o n c xs w hn hb hc) (fun n c w=>Any.slices_Clone_string_nil Tryz.laysNm216 n c w) (fun a c w=>Any.slices_Clone_string_zero Tryz.laysNm216 a c w) xs hx (by decide)
noncomputable def zfs(d:Unit):Option (Unit):=some d
noncomputable def zhK:Unit->Option (Unit):=zah zfs
theorem zii(d:Unit):zhK d=zfs d:=congrFun (zad zfs) d
noncomputable def zhR:TE:=⟨85,[.mpb 0 0],[.box bdB [.nilp,.e0]],(.tup []),[.box bdB [.mpb 0 0,.e0]],zhK⟩
theorem zrr:EOk Tryz.prog zhR:=zz0 (fun d=>by rw[zii];rfl) (zvA Tryz.call85 fun b w h1 h2 h3=>Any.Builder_copyCheck_fresh {Tryz.lays156 with} Tryz.Builder_Extra_156.toX72 b w h1 h2 h3)
noncomputable def zcm(d:List Int):Option (List Int):=some d
noncomputable def zdU:List Int->Option (List Int):=zah zcm
theorem ze2(d:List Int):zdU d=zcm d:=congrFun (zad zcm) d
noncomputable def zd1:TE:=⟨85,[.mpb 0 0],[.box bdB [.mpb 0 0,.own 1],.arr (.int .u8) .no],(.tup []),[.box bdB [.mpb 0 0,.own 1],.arr (.int .u8) .no],zdU⟩
theorem zmt:EOk Tryz.prog zd1:=zz1 (fun d=>by rw[ze2];rfl) (zyq Tryz.call85 fun b w h1=>Any.Builder_copyCheck_used {Tryz.lays156 with} Tryz.Builder_Extra_156.toX72 b w h1)
noncomputable def ziH(d:List Int):Option (List UInt8):=gd (decide (0<d.length)) (some (d.map zqt))
noncomputable def ziI:List Int->Option (List UInt8):=zah ziH
theorem zlE(d:List Int):ziI d=ziH d:=congrFun (zad ziH) d
noncomputable def zl8:TE:=⟨52,[.mpb 0 0],[.box bdB [.mpb 0 0,.own 1],.arr (.int .u8) .no],.str,[.dead,.dead],ziI⟩
theorem zv6:EOk Tryz.prog zl8:=zD6 (fun d=>by rw[zlE];rfl) (zwF Tryz.call52 fun b g cap l cur w h1 h2 h3 h4 h5 h6 h7=>(Any.String_exact {Tryz.lays156 with} Tryz.Builder_Extra_156 b g cap l cur w h1 h2 h3 h4 h5 (by unfold BIG at h6;omega) h7).mono fun e w' ⟨he,hw⟩=>⟨he,by subst hw;exact froze_all w g _⟩)
end Go.Fw
namespace Go.Fw
noncomputable section
open Go
set_option maxRecDepth 1000000
set_option linter.unusedVariables false
def zev(d:List (List UInt8)×Int):Option Int:=gd (zaF (d.2-(d.1.length:Int))) (zab (decide (d.2-(d.1.length:Int)<0)) (some (-1)) (zaa (zam (fun(s:Int×Int)=>zab (decide (s.2<(d.1.length:Int))) (gd (decide (0<=s.2)) (zaa d.1[s.2.toNat]? fun x=>gd (zaF (s.1-(x.length:Int))) (zab (decide (s.1-(x.length:Int)<0)) (some (Sum.inr (Sum.inr (-1)))) (gd (zaF (s.2+1)) (some (Sum.inl (s.1-(x.length:Int),s.2+1))))))) (some (Sum.inr (Sum.inl (s.1,s.2))))) (d.2-(d.1.length:Int),0)) fun(x:Int×Int⊕Int)=>zau x (fun d=>some d.1) fun r=>some r))
def zeL:List (List UInt8)×Int->Option Int:=zah zev
theorem zjv(d:List (List UInt8)×Int):zeL d=zev d:=congrFun (zad zev) d
def ziY:TE:=⟨157,[.lst .str,.int .i64],[],(.int .i64),[],zeL⟩
theorem ztS(d:List (List UInt8)×Int):zai [] zG7 zKV [.t 4] [.lst .str,.int .i64] [] (.int .i64) [] d=zeL d:=Eq.trans (b:=zev d) (by kernel_rfl) (zjv d).symm
def zgJ(d:Field×Int):Option Int:=gd (zaF (d.2-(d.1.name.length:Int))) (zab (decide (d.2-(d.1.name.length:Int)<0)) (some (-1)) (gd (zaF (d.2-(d.1.name.length:Int)-(d.1.of.length:Int))) (zab (decide (d.2-(d.1.name.length:Int)-(d.1.of.length:Int)<0)) (some (-1)) (zaa (zeL (d.1.needs,d.2-(d.1.name.length:Int)-(d.1.of.length:Int))) fun x=>zab (decide (x<0)) (some (-1)) (some x)))))
def ze7:Field×Int->Option Int:=zah zgJ
theorem zlI(d:Field×Int):ze7 d=zgJ d:=congrFun (zad zgJ) d
def zmc:TE:=⟨151,[.st .Field,.int .i64],[],(.int .i64),[],ze7⟩
theorem zw6(d:Field×Int):zai [ziY] zG1 zKP [.t 4] [.st .Field,.int .i64] [] (.int .i64) [] d=ze7 d:=Eq.trans (b:=zgJ d) (by kernel_rfl) (zlI d).symm
def zfF(d:List Field×Int):Option Int:=gd (zaF (d.2-(d.1.length:Int))) (zab (decide (d.2-(d.1.length:Int)<0)) (some (-1)) (zaa (zam (fun(s:Int×Int)=>zab (decide (s.2<(d.1.length:Int))) (gd (decide (0<=s.2)) (zaa d.1[s.2.toNat]? fun x=>zaa (ze7 (x,s.1)) fun x=>zab (decide (x<0)) (some (Sum.inr (Sum.inr (-1)))) (gd (zaF (s.2+1)) (some (Sum.inl (x,s.2+1)))))) (some (Sum.inr (Sum.inl (s.1,s.2))))) (d.2-(d.1.length:Int),0)) fun(x:Int×Int⊕Int)=>zau x (fun d=>some d.1) fun r=>some r))
def zfO:List Field×Int->Option Int:=zah zfF
theorem zkg(d:List Field×Int):zfO d=zfF d:=congrFun (zad zfF) d
def zkm:TE:=⟨135,[.lst (.nm .Field),.int .i64],[],(.int .i64),[],zfO⟩
theorem zvm(d:List Field×Int):zai [zmc] zGM zKA [.t 4] [.lst (.nm .Field),.int .i64] [] (.int .i64) [] d=zfO d:=Eq.trans (b:=zfF d) (by kernel_rfl) (zkg d).symm
def zh3(d:Typ×Int):Option Int:=gd (zaF (d.2-(d.1.name.length:Int))) (zab (decide (d.2-(d.1.name.length:Int)<0)) (some (-1)) (gd (zaF (d.2-(d.1.name.length:Int)-(d.1.key.length:Int))) (zab (decide (d.2-(d.1.name.length:Int)-(d.1.key.length:Int)<0)) (some (-1)) (zaa (zfO (d.1.fields,d.2-(d.1.name.length:Int)-(d.1.key.length:Int))) fun x=>zab (decide (x<0)) (some (-1)) (some x)))))
def zgv:Typ×Int->Option Int:=zah zh3
theorem zm3(d:Typ×Int):zgv d=zh3 d:=congrFun (zad zh3) d
def znY:TE:=⟨104,[.st .Typ,.int .i64],[],(.int .i64),[],zgv⟩
theorem zzF(d:Typ×Int):zai [zkm] zGn zKb [.t 4] [.st .Typ,.int .i64] [] (.int .i64) [] d=zgv d:=Eq.trans (b:=zh3 d) (by kernel_rfl) (zm3 d).symm
def zgL(d:List Typ×Int):Option Int:=gd (zaF (d.2-(d.1.length:Int))) (zab (decide (d.2-(d.1.length:Int)<0)) (some (-1)) (zaa (zam (fun(s:Int×Int)=>zab (decide (s.2<(d.1.length:Int))) (gd (decide (0<=s.2)) (zaa d.1[s.2.toNat]? fun x=>zaa (zgv (x,s.1)) fun x=>zab (decide (x<0)) (some (Sum.inr (Sum.inr (-1)))) (gd (zaF (s.2+1)) (some (Sum.inl (x,s.2+1)))))) (some (Sum.inr (Sum.inl (s.1,s.2))))) (d.2-(d.1.length:Int),0)) fun(x:Int×Int⊕Int)=>zau x (fun d=>some d.1) fun r=>some r))
def zg5:List Typ×Int->Option Int:=zah zgL
theorem zlK(d:List Typ×Int):zg5 d=zgL d:=congrFun (zad zgL) d
def zme:TE:=⟨75,[.lst (.nm .Typ),.int .i64],[],(.int .i64),[],zg5⟩
theorem zw8(d:List Typ×Int):zai [znY] zLA c75 [.t 4] [.lst (.nm .Typ),.int .i64] [] (.int .i64) [] d=zg5 d:=Eq.trans (b:=zgL d) (by kernel_rfl) (zlK d).symm
def zh2(d:Part×Int):Option Int:=gd (zaF (d.2-(d.1.name.length:Int))) (zab (decide (d.2-(d.1.name.length:Int)<0)) (some (-1)) (zaa (zg5 (d.1.types,d.2-(d.1.name.length:Int))) fun x=>zab (decide (x<0)) (some (-1)) (some x)))
def zgu:Part×Int->Option Int:=zah zh2
theorem zm2(d:Part×Int):zgu d=zh2 d:=congrFun (zad zh2) d
def znX:TE:=⟨34,[.st .Part,.int .i64],[],(.int .i64),[],zgu⟩
theorem zzE(d:Part×Int):zai [zme] zLb c34 [.t 4] [.st .Part,.int .i64] [] (.int .i64) [] d=zgu d:=Eq.trans (b:=zh2 d) (by kernel_rfl) (zm2 d).symm
def zgK(d:List Part×Int):Option Int:=gd (zaF (d.2-(d.1.length:Int))) (zab (decide (d.2-(d.1.length:Int)<0)) (some (-1)) (zaa (zam (fun(s:Int×Int)=>zab (decide (s.2<(d.1.length:Int))) (gd (decide (0<=s.2)) (zaa d.1[s.2.toNat]? fun x=>zaa (zgu (x,s.1)) fun x=>zab (decide (x<0)) (some (Sum.inr (Sum.inr (-1)))) (gd (zaF (s.2+1)) (some (Sum.inl (x,s.2+1)))))) (some (Sum.inr (Sum.inl (s.1,s.2))))) (d.2-(d.1.length:Int),0)) fun(x:Int×Int⊕Int)=>zau x (fun d=>some d.1) fun r=>some r))
def ze8:List Part×Int->Option Int:=zah zgK
theorem zlJ(d:List Part×Int):ze8 d=zgK d:=congrFun (zad zgK) d
def zmd:TE:=⟨12,[.lst (.nm .Part),.int .i64],[],(.int .i64),[],ze8⟩
theorem zw7(d:List Part×Int):zai [znX] zKZ c12 [.t 4] [.lst (.nm .Part),.int .i64] [] (.int .i64) [] d=ze8 d:=Eq.trans (b:=zgK d) (by kernel_rfl) (zlJ d).symm
def zew(d:List (List UInt8)):Option (List (List UInt8)):=gd (decide (0<=(d.length:Int))&&decide ((d.length:Int)<=(↑LIM:Int))) (zaa (zam (fun(s:Int×List (List UInt8))=>zab (decide (s.1<(d.length:Int))) (gd (decide (0<=s.1)) (zaa d[s.1.toNat]? fun x=>gd (decide (0<=s.1)&&decide (s.1<(s.2.length:Int))) (zaa s.2[s.1.toNat]? fun x_1=>gd (zaF (s.1+1)) (some (Sum.inl (s.1+1,List.set s.2 (s.1.toNat) x)))))) (some (Sum.inr (s.1,s.2)))) (0,List.replicate (Int.toNat (d.length:Int)) [])) fun(x:Int×List (List UInt8))=>some x.2)
def zeM:List (List UInt8)->Option (List (List UInt8)):=zah zew
theorem zjw(d:List (List UInt8)):zeM d=zew d:=congrFun (zad zew) d
def ziZ:TE:=⟨158,[.lst .str],[],(.lst .str),[],zeM⟩
theorem ztT(d:List (List UInt8)):zai [] zG8 zKW [.t 2] [.lst .str] [] (.lst .str) [] d=zeM d:=Eq.trans (b:=zew d) (by kernel_rfl) (zjw d).symm
def zgM(d:Field):Option Field:=zaa (zeM d.needs) fun x=>some {name:=d.name,of:=d.of,list:=d.list,must:=d.must,far:=d.far,hidden:=d.hidden,shared:=d.shared,needs:=x:Field}
def ze9:Field->Option Field:=zah zgM
theorem zlL(d:Field):ze9 d=zgM d:=congrFun (zad zgM) d
def zmf:TE:=⟨152,[.st .Field],[],(.st .Field),[],ze9⟩
theorem zw9(d:Field):zai [ziZ] zG2 zKQ [.c 2 (some 8)] [.st .Field] [] (.st .Field) [] d=ze9 d:=Eq.trans (b:=zgM d) (by kernel_rfl) (zlL d).symm
def zfG(d:List Field):Option (List Field):=gd (decide (0<=(d.length:Int))&&decide ((d.length:Int)<=(↑LIM:Int))) (zaa (zam (fun(s:Int×List Field)=>zab (decide (s.1<(d.length:Int))) (gd (decide (0<=s.1)) (zaa d[s.1.toNat]? fun x=>zaa (ze9 x) fun x=>gd (decide (0<=s.1)&&decide (s.1<(s.2.length:Int))) (zaa s.2[s.1.toNat]? fun x_1=>gd (zaF (s.1+1)) (some (Sum.inl (s.1+1,List.set s.2 (s.1.toNat) x)))))) (some (Sum.inr (s.1,s.2)))) (0,List.replicate (Int.toNat (d.length:Int)) {name:=[],of:=[],list:=false,must:=false,far:=false,hidden:=false,shared:=false,needs:=[]:Field})) fun(x:Int×List Field)=>some x.2)
def zfP:List Field->Option (List Field):=zah zfG
theorem zkh(d:List Field):zfP d=zfG d:=congrFun (zad zfG) d
def zkn:TE:=⟨136,[.lst (.nm .Field)],[],(.lst (.nm .Field)),[],zfP⟩
theorem zvn(d:List Field):zai [zmf] zGN zKB [.t 2] [.lst (.nm .Field)] [] (.lst (.nm .Field)) [] d=zfP d:=Eq.trans (b:=zfG d) (by kernel_rfl) (zkh d).symm
def zh5(d:Typ):Option Typ:=zaa (zfP d.fields) fun x=>some {name:=d.name,key:=d.key,fields:=x:Typ}
def zgx:Typ->Option Typ:=zah zh5
theorem zm5(d:Typ):zgx d=zh5 d:=congrFun (zad zh5) d
def zn0:TE:=⟨105,[.st .Typ],[],(.st .Typ),[],zgx⟩
theorem zzH(d:Typ):zai [zkn] zGo zKc [.c 2 (some 3)] [.st .Typ] [] (.st .Typ) [] d=zgx d:=Eq.trans (b:=zh5 d) (by kernel_rfl) (zm5 d).symm
def zgO(d:List Typ):Option (List Typ):=gd (decide (0<=(d.length:Int))&&decide ((d.length:Int)<=(↑LIM:Int))) (zaa (zam (fun(s:Int×List Typ)=>zab (decide (s.1<(d.length:Int))) (gd (decide (0<=s.1)) (zaa d[s.1.toNat]? fun x=>zaa (zgx x) fun x=>gd (decide (0<=s.1)&&decide (s.1<(s.2.length:Int))) (zaa s.2[s.1.toNat]? fun x_1=>gd (zaF (s.1+1)) (some (Sum.inl (s.1+1,List.set s.2 (s.1.toNat) x)))))) (some (Sum.inr (s.1,s.2)))) (0,List.replicate (Int.toNat (d.length:Int)) {name:=[],key:=[],fields:=[]:Typ})) fun(x:Int×List Typ)=>some x.2)
def zg6:List Typ->Option (List Typ):=zah zgO
theorem zlN(d:List Typ):zg6 d=zgO d:=congrFun (zad zgO) d
def zmh:TE:=⟨76,[.lst (.nm .Typ)],[],(.lst (.nm .Typ)),[],zg6⟩
theorem zxb(d:List Typ):zai [zn0] zLB c76 [.t 2] [.lst (.nm .Typ)] [] (.lst (.nm .Typ)) [] d=zg6 d:=Eq.trans (b:=zgO d) (by kernel_rfl) (zlN d).symm
def zh4(d:Part):Option Part:=zaa (zg6 d.types) fun x=>some {name:=d.name,types:=x:Part}
def zgw:Part->Option Part:=zah zh4
theorem zm4(d:Part):zgw d=zh4 d:=congrFun (zad zh4) d
def znZ:TE:=⟨35,[.st .Part],[],(.st .Part),[],zgw⟩
theorem zzG(d:Part):zai [zmh] zLc c35 [.c 2 (some 2)] [.st .Part] [] (.st .Part) [] d=zgw d:=Eq.trans (b:=zh4 d) (by kernel_rfl) (zm4 d).symm
def zgN(d:List Part):Option (List Part):=gd (decide (0<=(d.length:Int))&&decide ((d.length:Int)<=(↑LIM:Int))) (zaa (zam (fun(s:Int×List Part)=>zab (decide (s.1<(d.length:Int))) (gd (decide (0<=s.1)) (zaa d[s.1.toNat]? fun x=>zaa (zgw x) fun x=>gd (decide (0<=s.1)&&decide (s.1<(s.2.length:Int))) (zaa s.2[s.1.toNat]? fun x_1=>gd (zaF (s.1+1)) (some (Sum.inl (s.1+1,List.set s.2 (s.1.toNat) x)))))) (some (Sum.inr (s.1,s.2)))) (0,List.replicate (Int.toNat (d.length:Int)) {name:=[],types:=[]:Part})) fun(x:Int×List Part)=>some x.2)
def zb4:List Part->Option (List Part):=zah zgN
theorem zlM(d:List Part):zb4 d=zgN d:=congrFun (zad zgN) d
def zmg:TE:=⟨13,[.lst (.nm .Part)],[],(.lst (.nm .Part)),[],zb4⟩
theorem zxa(d:List Part):zai [znZ] zK0 c13 [.t 2] [.lst (.nm .Part)] [] (.lst (.nm .Part)) [] d=zb4 d:=Eq.trans (b:=zgN d) (by kernel_rfl) (zlM d).symm
def zt0(d:Int×Int×Int):Option Bool:=zaa (zab (decide (d.1>=d.2.1)) (some (decide (d.1<=d.2.2))) (some false)) fun x=>some x
def zt2:Int×Int×Int->Option Bool:=zah zt0
theorem zt3(d:Int×Int×Int):zt2 d=zt0 d:=congrFun (zad zt0) d
def zAh:TE:=⟨146,[.int .i64,.int .i64,.int .i64],[],(.bool),[],zt2⟩
theorem zIc(d:Int×Int×Int):zai [] zGW zKK [.t 6] [.int .i64,.int .i64,.int .i64] [] (.bool) [] d=zt2 d:=Eq.trans (b:=zt0 d) (by kernel_rfl) (zt3 d).symm
def zmJ(d:List UInt8):Option Bool:=zaa (zt2 ((d.length:Int),1,9)) fun x=>zab (!x) (some false) (zaa (zam (fun(s:Int)=>zab (decide (s<(d.length:Int))) (zaa (gd (decide (0<=s)) (zaa d[s.toNat]? fun x=>zab (decide (zaP x>=97)) (gd (decide (0<=s)) (zaa d[s.toNat]? fun x=>zab (decide (zaP x<=122)) (some false) (gd (decide (0<=s)) (zaa d[s.toNat]? fun x=>zab (zaP x==95) (some false) (zab (decide (s>0)) (gd (decide (0<=s)) (zaa d[s.toNat]? fun x=>zab (decide (zaP x>=48)) (gd (decide (0<=s)) (zaa d[s.toNat]? fun x=>some !decide (zaP x<=57))) (some true))) (some true)))))) (gd (decide (0<=s)) (zaa d[s.toNat]? fun x=>zab (zaP x==95) (some false) (zab (decide (s>0)) (gd (decide (0<=s)) (zaa d[s.toNat]? fun x=>zab (decide (zaP x>=48)) (gd (decide (0<=s)) (zaa d[s.toNat]? fun x=>some !decide (zaP x<=57))) (some true))) (some true)))))) fun x=>zab x (some (Sum.inr (Sum.inr false))) (gd (zaF (s+1)) (some (Sum.inl (s+1))))) (some (Sum.inr (Sum.inl s)))) 0) fun(x:Int⊕Bool)=>zau x (fun d=>some true) fun r=>some r)
def zmU:List UInt8->Option Bool:=zah zmJ
theorem zpN(d:List UInt8):zmU d=zmJ d:=congrFun (zad zmJ) d
def zsu:TE:=⟨118,[.str],[],(.bool),[],zmU⟩
theorem zDj(d:List UInt8):zai [zAh] zGw zKk [.t 2] [.str] [] (.bool) [] d=zmU d:=Eq.trans (b:=zmJ d) (by kernel_rfl) (zpN d).symm
def zhY(d:List UInt8):Option Bool:=zaa (zab (d==[105,110,116]) (some true) (zab (d==[116,101,120,116]) (some true) (some (d==[98,111,111,108])))) fun x=>some x
def zd8:List UInt8->Option Bool:=zah zhY
theorem zmW(d:List UInt8):zd8 d=zhY d:=congrFun (zad zhY) d
def zfd:TE:=⟨119,[.str],[],(.bool),[],zd8⟩
theorem zzA(d:List UInt8):zai [] zGx zKl [.t 2] [.str] [] (.bool) [] d=zd8 d:=Eq.trans (b:=zhY d) (by kernel_rfl) (zmW d).symm
def zmL(d:List UInt8):Option Bool:=zaa (zaa (zmU d) fun x=>zab x (zab (decide ((d.length:Int)<=8)) (zaa d[Int.toNat 0]? fun x=>zab (zaP x !=95) (zaa (zd8 d) fun x=>zab (!x) (zab (d !=[112,97,114,116]) (zab (d !=[116,121,112,101]) (zab (d !=[107,101,121]) (zab (d !=[102,97,114]) (zab (d !=[104,105,100,100,101,110]) (zab (d !=[115,104,97,114,101,100]) (some (d !=[110,101,101,100,115])) (some false)) (some false)) (some false)) (some false)) (some false)) (some false)) (some false)) (some false)) (some false)) (some false)) fun x=>some x
def zfu:List UInt8->Option Bool:=zah zmL
theorem zpQ(d:List UInt8):zfu d=zmL d:=congrFun (zad zmL) d
def znb:TE:=⟨90,[.str],[],(.bool),[],zfu⟩
theorem zDl(d:List UInt8):zai [zsu,zfd] zLJ c90 [.t 2] [.str] [] (.bool) [] d=zfu d:=Eq.trans (b:=zmL d) (by kernel_rfl) (zpQ d).symm
def zmM(d:Part×List UInt8):Option Int:=zaa (zam (fun(s:Int)=>zab (decide (s<(d.1.types.length:Int))) (gd (decide (0<=s)) (zaa d.1.types[s.toNat]? fun x=>zab (x.name==d.2) (some (Sum.inr (Sum.inr s))) (gd (zaF (s+1)) (some (Sum.inl (s+1)))))) (some (Sum.inr (Sum.inl s)))) 0) fun(x:Int⊕Int)=>zau x (fun d=>some (-1)) fun r=>some r
def zdQ:Part×List UInt8->Option Int:=zah zmM
theorem zpR(d:Part×List UInt8):zdQ d=zmM d:=congrFun (zad zmM) d
def zdn:TE:=⟨57,[.st .Part,.str],[],(.int .i64),[],zdQ⟩
theorem zDm(d:Part×List UInt8):zai [] zLm c57 [.t 4] [.st .Part,.str] [] (.int .i64) [] d=zdQ d:=Eq.trans (b:=zmM d) (by kernel_rfl) (zpR d).symm
def zjS(d:Typ×List UInt8):Option Int:=zaa (zam (fun(s:Int)=>zab (decide (s<(d.1.fields.length:Int))) (gd (decide (0<=s)) (zaa d.1.fields[s.toNat]? fun x=>zab (x.name==d.2) (some (Sum.inr (Sum.inr s))) (gd (zaF (s+1)) (some (Sum.inl (s+1)))))) (some (Sum.inr (Sum.inl s)))) 0) fun(x:Int⊕Int)=>zau x (fun d=>some (-1)) fun r=>some r
def zeC:Typ×List UInt8->Option Int:=zah zjS
theorem zoH(d:Typ×List UInt8):zeC d=zjS d:=congrFun (zad zjS) d
def zc9:TE:=⟨58,[.st .Typ,.str],[],(.int .i64),[],zeC⟩
theorem zBZ(d:Typ×List UInt8):zai [] zLn c58 [.t 4] [.st .Typ,.str] [] (.int .i64) [] d=zeC d:=Eq.trans (b:=zjS d) (by kernel_rfl) (zoH d).symm
def zpI(d:Typ):Option Bool:=zab (d.key==[]) (some true) (zaa (zeC (d,d.key)) fun x=>zab (decide (x<0)) (some false) (gd (decide (0<=x)) (zaa d.fields[x.toNat]? fun x=>zaa (zab (x.of==[105,110,116]) (zab (!x.list) (zab x.must (zab (!x.far) (zab (!x.hidden) (some ((x.needs.length:Int)==0)) (some false)) (some false)) (some false)) (some false)) (some false)) fun x=>some x)))
def zpO:Typ->Option Bool:=zah zpI
theorem zrI(d:Typ):zpO d=zpI d:=congrFun (zad zpI) d
def zvF:TE:=⟨120,[.st .Typ],[],(.bool),[],zpO⟩
theorem zFR(d:Typ):zai [zc9] zGy zKm [.t 2] [.st .Typ] [] (.bool) [] d=zpO d:=Eq.trans (b:=zpI d) (by kernel_rfl) (zrI d).symm
def zjT(d:Typ×Field):Option Bool:=zaa (zab (decide ((d.2.needs.length:Int)>0)) (zab (d.2.of !=[105,110,116]) (some true) (zab d.2.list (some true) (zab d.2.far (some true) (zab d.2.must (some true) (zab (d.1.key==[]) (some true) (some (d.2.name==d.1.key))))))) (some false)) fun x=>zab x (some false) (zaa (zam (fun(s:Int)=>zab (decide (s<(d.2.needs.length:Int))) (gd (decide (0<=s)) (zaa d.2.needs[s.toNat]? fun x=>zaa (zeC (d.1,x)) fun x=>zaa (zab (decide (x<0)) (some true) (gd (decide (0<=x)) (zaa d.1.fields[x.toNat]? fun x_1=>zab (decide ((x_1.needs.length:Int)>0)) (some true) (gd (decide (0<=x)) (zaa d.1.fields[x.toNat]? fun x_2=>zab (x_2.of !=[105,110,116]) (some true) (gd (decide (0<=x)) (zaa d.1.fields[x.toNat]? fun x=>zab x.list (some true) (zab (decide (s>0)) (gd (zaF (s-1)) (gd (decide (0<=s-1)) (zaa d.2.needs[Int.toNat (s-1)]? fun x=>gd (decide (0<=s)) (zaa d.2.needs[s.toNat]? fun x_3=>some !Op.bytesLess x x_3)))) (some false))))))))) fun x=>zab x (some (Sum.inr (Sum.inr false))) (gd (zaF (s+1)) (some (Sum.inl (s+1)))))) (some (Sum.inr (Sum.inl s)))) 0) fun(x:Int⊕Bool)=>zau x (fun d=>some true) fun r=>some r)
def zka:Typ×Field->Option Bool:=zah zjT
theorem zoI(d:Typ×Field):zka d=zjT d:=congrFun (zad zjT) d
def zp6:TE:=⟨121,[.st .Typ,.st .Field],[],(.bool),[],zka⟩
theorem zB0(d:Typ×Field):zai [zc9] zGz zKn [.t 4] [.st .Typ,.st .Field] [] (.bool) [] d=zka d:=Eq.trans (b:=zjT d) (by kernel_rfl) (zoI d).symm
def zjR(d:Part×Int):Option Int:=gd (decide (0<=d.2)) (zaa d.1.types[d.2.toNat]? fun x=>zaa (zaa (zfu x.name) fun x_1=>zab (!x_1) (some true) (zab (x.key !=[]) (zaa (zfu x.key) fun x_2=>zab (!x_2) (some true) (zab ((x.fields.length:Int)==0) (some true) (some (decide ((x.fields.length:Int)>8))))) (zab ((x.fields.length:Int)==0) (some true) (some (decide ((x.fields.length:Int)>8)))))) fun x_1=>zab x_1 (some 1) (zaa (zam (fun(s:Int)=>zab (decide (s<(x.fields.length:Int))) (gd (decide (0<=s)) (zaa x.fields[s.toNat]? fun x=>zaa (zaa (zfu x.name) fun x_2=>zab (!x_2) (some true) (zaa (zd8 x.of) fun x_3=>zab (!x_3) (zaa (zfu x.of) fun x=>some !x) (some false))) fun x_2=>zab x_2 (some (Sum.inr (Sum.inr 1))) (zaa (zam (fun(s:Int)=>zab (decide (s<(x.needs.length:Int))) (gd (decide (0<=s)) (zaa x.needs[s.toNat]? fun x=>zaa (zfu x) fun x=>zab (!x) (some (Sum.inr (Sum.inr (Sum.inr (Sum.inr 1))))) (gd (zaF (s+1)) (some (Sum.inl (s+1)))))) (some (Sum.inr (Sum.inl s)))) 0) fun(x:Int⊕Int⊕Int⊕Int)=>zau x (fun d=>gd (zaF (s+1)) (some (Sum.inl (s+1)))) fun r=>some r))) (some (Sum.inr (Sum.inl s)))) 0) fun(x_2:Int⊕Int)=>zau x_2 (fun d_1=>zaa (zdQ (d.1,x.name)) fun x_3=>zab (x_3 !=d.2) (some 2) (zaa (zam (fun(s:Int)=>zab (decide (s<(x.fields.length:Int))) (gd (decide (0<=s)) (zaa x.fields[s.toNat]? fun x_4=>zaa (zeC (x,x_4.name)) fun x=>zab (x !=s) (some (Sum.inr (Sum.inr 2))) (gd (zaF (s+1)) (some (Sum.inl (s+1)))))) (some (Sum.inr (Sum.inl s)))) 0) fun(x_4:Int⊕Int)=>zau x_4 (fun d_2=>zaa (zam (fun(s:Int)=>zab (decide (s<(x.fields.length:Int))) (zaa (gd (decide (0<=s)) (zaa x.fields[s.toNat]? fun x_5=>zaa (zd8 x_5.of) fun x_6=>zab (!x_6) (gd (decide (0<=s)) (zaa x.fields[s.toNat]? fun x=>zaa (zdQ (d.1,x.of)) fun x=>some (decide (x<0)))) (some false))) fun x=>zab x (some (Sum.inr (Sum.inr 3))) (gd (zaF (s+1)) (some (Sum.inl (s+1))))) (some (Sum.inr (Sum.inl s)))) 0) fun(x_5:Int⊕Int)=>zau x_5 (fun d=>zaa (zpO x) fun x_6=>zab (!x_6) (some 4) (zaa (zam (fun(s:Int)=>zab (decide (s<(x.fields.length:Int))) (zaa (gd (decide (0<=s)) (zaa x.fields[s.toNat]? fun x_7=>zaa (zka (x,x_7)) fun x_8=>zab (!x_8) (some true) (gd (decide (0<=s)) (zaa x.fields[s.toNat]? fun x_9=>zab x_9.far (gd (decide (0<=s)) (zaa x.fields[s.toNat]? fun x=>some x.shared)) (some false))))) fun x=>zab x (some (Sum.inr (Sum.inr 5))) (gd (zaF (s+1)) (some (Sum.inl (s+1))))) (some (Sum.inr (Sum.inl s)))) 0) fun(x:Int⊕Int)=>zau x (fun d=>some 0) fun r=>some r)) fun r=>some r) fun r=>some r)) fun r=>some r))
def zj9:Part×Int->Option Int:=zah zjR
theorem zoG(d:Part×Int):zj9 d=zjR d:=congrFun (zad zjR) d
def zp5:TE:=⟨91,[.st .Part,.int .i64],[],(.int .i64),[],zj9⟩
theorem zBY(d:Part×Int):zai [znb,zfd,zdn,zc9,zvF,zp6] zLK c91 [.t 4] [.st .Part,.int .i64] [] (.int .i64) [] d=zj9 d:=Eq.trans (b:=zjR d) (by kernel_rfl) (zoG d).symm
def zmK(d:Field):Option (List UInt8):=zaa (zab d.list (gd (decide (List.length [91]+List.length d.of<=BIG)) (gd (decide (List.length ([91]++d.of)+List.length [93]<=BIG)) (some ([91]++d.of++[93])))) (some d.of)) fun x=>zaa (zab d.must (gd (decide (List.length x+List.length [33]<=BIG)) (some (x++[33]))) (some x)) fun x=>gd (decide (List.length [32,32]+List.length d.name<=BIG)) (gd (decide (List.length ([32,32]++d.name)+List.length [32]<=BIG)) (gd (decide (List.length ([32,32]++d.name++[32])+List.length x<=BIG)) (zaa (zab d.far (gd (decide (List.length ([32,32]++d.name++[32]++x)+List.length [32,102,97,114]<=BIG)) (some ([32,32]++d.name++[32]++x++[32,102,97,114]))) (some ([32,32]++d.name++[32]++x))) fun x=>zaa (zab d.hidden (gd (decide (List.length x+List.length [32,104,105,100,100,101,110]<=BIG)) (some (x++[32,104,105,100,100,101,110]))) (some x)) fun x=>zaa (zab d.shared (gd (decide (List.length x+List.length [32,115,104,97,114,101,100]<=BIG)) (some (x++[32,115,104,97,114,101,100]))) (some x)) fun x=>zaa (zab (decide ((d.needs.length:Int)>0)) (gd (decide (List.length x+List.length [32,110,101,101,100,115]<=BIG)) (some (x++[32,110,101,101,100,115]))) (some x)) fun x=>zaa (zam (fun(s:List UInt8×Int)=>zab (decide (s.2<(d.needs.length:Int))) (gd (decide (List.length s.1+List.length [32]<=BIG)) (gd (decide (0<=s.2)) (zaa d.needs[s.2.toNat]? fun x=>gd (decide (List.length (s.1++[32])+List.length x<=BIG)) (gd (zaF (s.2+1)) (some (Sum.inl (s.1++[32]++x,s.2+1))))))) (some (Sum.inr (s.1,s.2)))) (x,0)) fun(x:List UInt8×Int)=>gd (decide (List.length x.1+List.length [10]<=BIG)) (some (x.1++[10])))))
def zmV:Field->Option (List UInt8):=zah zmK
theorem zpP(d:Field):zmV d=zmK d:=congrFun (zad zmK) d
def zsv:TE:=⟨122,[.st .Field],[],(.str),[],zmV⟩
theorem zDk(d:Field):zai [] zGA zKo [.t 2] [.st .Field] [] (.str) [] d=zmV d:=Eq.trans (b:=zmK d) (by kernel_rfl) (zpP d).symm
def zjU(d:Part):Option (List UInt8):=gd (decide (List.length [112,97,114,116,32]+List.length d.name<=BIG)) (gd (decide (List.length ([112,97,114,116,32]++d.name)+List.length [10]<=BIG)) (zaa (zam (fun(s:List UInt8×Int)=>zab (decide (s.2<(d.types.length:Int))) (gd (decide (0<=s.2)) (zaa d.types[s.2.toNat]? fun x=>gd (decide (List.length s.1+List.length [116,121,112,101,32]<=BIG)) (gd (decide (List.length (s.1++[116,121,112,101,32])+List.length x.name<=BIG)) (zaa (zab (x.key !=[]) (gd (decide (List.length (s.1++[116,121,112,101,32]++x.name)+List.length [32,107,101,121,32]<=BIG)) (gd (decide (List.length (s.1++[116,121,112,101,32]++x.name++[32,107,101,121,32])+List.length x.key<=BIG)) (some (s.1++[116,121,112,101,32]++x.name++[32,107,101,121,32]++x.key)))) (some (s.1++[116,121,112,101,32]++x.name))) fun x_1=>gd (decide (List.length x_1+List.length [10]<=BIG)) (zaa (zam (fun(s:List UInt8×Int)=>zab (decide (s.2<(x.fields.length:Int))) (gd (decide (0<=s.2)) (zaa x.fields[s.2.toNat]? fun x=>zaa (zmV x) fun x=>gd (decide (List.length s.1+List.length x<=BIG)) (gd (zaF (s.2+1)) (some (Sum.inl (s.1++x,s.2+1)))))) (some (Sum.inr (s.1,s.2)))) (x_1++[10],0)) fun(x:List UInt8×Int)=>gd (zaF (s.2+1)) (some (Sum.inl (x.1,s.2+1)))))))) (some (Sum.inr (s.1,s.2)))) ([112,97,114,116,32]++d.name++[10],0)) fun(x:List UInt8×Int)=>some x.1))
def zkb:Part->Option (List UInt8):=zah zjU
theorem zoJ(d:Part):zkb d=zjU d:=congrFun (zad zjU) d
def zp7:TE:=⟨92,[.st .Part],[],(.str),[],zkb⟩
theorem zB1(d:Part):zai [zsv] zLL c92 [.t 2] [.st .Part] [] (.str) [] d=zkb d:=Eq.trans (b:=zjU d) (by kernel_rfl) (zoJ d).symm
def zgB(d:Part):Option PFault:=zab (decide ((d.types.length:Int)>5)) (some {pos:=6,code:=6:PFault}) (zaa (zfu d.name) fun x=>zab (!x) (some {pos:=0,code:=1:PFault}) (zaa (zab ((d.types.length:Int)==0) (some true) (zaa d.types[Int.toNat 0]? fun x=>zab (x.name !=[113,117,101,114,121]) (some true) (zaa d.types[Int.toNat 0]? fun x=>some (x.key !=[])))) fun x=>zab x (some {pos:=0,code:=7:PFault}) (zaa (zam (fun(s:Int×Int×Int)=>zab (decide (s.1<(d.types.length:Int))) (zaa (zj9 (d,s.1)) fun x=>zab (x !=0) (gd (zaF (s.1+1)) (some (Sum.inr (Sum.inr {pos:=s.1+1,code:=x:PFault})))) (zaa (zam (fun(s_1:Int×Int×Int)=>gd (decide (0<=s.1)) (zaa d.types[s.1.toNat]? fun x=>zab (decide (s_1.1<(x.fields.length:Int))) (gd (decide (0<=s.1)) (zaa d.types[s.1.toNat]? fun x=>gd (decide (0<=s_1.1)) (zaa x.fields[s_1.1.toNat]? fun x=>zab (x.of==[113,117,101,114,121]) (gd (zaF (s.1+1)) (some (Sum.inr (Sum.inr (Sum.inr (Sum.inr {pos:=s.1+1,code:=7:PFault})))))) (gd (zaF (s_1.1+1)) (some (Sum.inl (s_1.1+1,s_1.2.1,s_1.2.2))))))) (some (Sum.inr (Sum.inl (s_1.1,s_1.2.1,s_1.2.2)))))) (0,s.2.1,s.2.2)) fun(x:Int×Int×Int⊕Int×Int×Int⊕Int×Int×Int⊕PFault)=>zau x (fun d=>gd (zaF (s.1+1)) (some (Sum.inl (s.1+1,d.2.1,d.2.2)))) fun r=>some r)) (some (Sum.inr (Sum.inl (s.1,s.2.1,s.2.2))))) (0,0,0)) fun(x:Int×Int×Int⊕PFault)=>zau x (fun d_1=>zaa (zkb d) fun x=>zab (decide ((x.length:Int)>1500)) (some {pos:=0,code:=6:PFault}) (some {pos:=0,code:=0:PFault})) fun r=>some r)))
def zcZ:Part->Option PFault:=zah zgB
theorem zly(d:Part):zcZ d=zgB d:=congrFun (zad zgB) d
def zdV:TE:=⟨55,[.st .Part],[],(.st .PFault),[],zcZ⟩
theorem zwY(d:Part):zai [znb,zp5,zp7] zLk c55 [.c 2 (some 2)] [.st .Part] [] (.st .PFault) [] d=zcZ d:=Eq.trans (b:=zgB d) (by kernel_rfl) (zly d).symm
def zpK(d:List Part×List UInt8):Option (List UInt8):=zaa (zam (fun(s:Int)=>zab (decide (s<(d.1.length:Int))) (gd (decide (0<=s)) (zaa d.1[s.toNat]? fun x=>zaa (zdQ (x,d.2)) fun x=>zaa (zab (decide (x>=0)) (gd (decide (0<=s)) (zaa d.1[s.toNat]? fun x_1=>gd (decide (0<=x)) (zaa x_1.types[x.toNat]? fun x=>some (x.key !=[])))) (some false)) fun x_1=>zab x_1 (gd (decide (0<=s)) (zaa d.1[s.toNat]? fun x_2=>gd (decide (0<=x)) (zaa x_2.types[x.toNat]? fun x=>some (Sum.inr (Sum.inr x.key))))) (gd (zaF (s+1)) (some (Sum.inl (s+1)))))) (some (Sum.inr (Sum.inl s)))) 0) fun(x:Int⊕List UInt8)=>zau x (fun d=>some []) fun r=>some r
def zlY:List Part×List UInt8->Option (List UInt8):=zah zpK
theorem zrK(d:List Part×List UInt8):zlY d=zpK d:=congrFun (zad zpK) d
def zl7:TE:=⟨87,[.lst (.nm .Part),.str],[],(.str),[],zlY⟩
theorem zFT(d:List Part×List UInt8):zai [zdn] zLG c87 [.t 4] [.lst (.nm .Part),.str] [] (.str) [] d=zlY d:=Eq.trans (b:=zpK d) (by kernel_rfl) (zrK d).symm
def zpH(d:Part×List UInt8×List UInt8):Option (Field×Bool):=zaa (zdQ (d.1,d.2.1)) fun x=>zab (decide (x<0)) (some ({name:=[],of:=[],list:=false,must:=false,far:=false,hidden:=false,shared:=false,needs:=[]:Field},false)) (gd (decide (0<=x)) (zaa d.1.types[x.toNat]? fun x_1=>zaa (zeC (x_1,d.2.2)) fun x_2=>zab (decide (x_2<0)) (some ({name:=[],of:=[],list:=false,must:=false,far:=false,hidden:=false,shared:=false,needs:=[]:Field},false)) (gd (decide (0<=x)) (zaa d.1.types[x.toNat]? fun x=>gd (decide (0<=x_2)) (zaa x.fields[x_2.toNat]? fun x=>some (x,true))))))
def zgX:Part×List UInt8×List UInt8->Option (Field×Bool):=zah zpH
theorem zrH(d:Part×List UInt8×List UInt8):zgX d=zpH d:=congrFun (zad zpH) d
def zfc:TE:=⟨28,[.st .Part,.str,.str],[],(.tup [.st .Field,.bool]),[],zgX⟩
theorem zFQ(d:Part×List UInt8×List UInt8):zai [zdn,zc9] zK6 c28 [.c 6 (some 8),.t 7] [.st .Part,.str,.str] [] (.tup [.st .Field,.bool]) [] d=zgX d:=Eq.trans (b:=zpH d) (by kernel_rfl) (zrH d).symm
def zhZ(d:List Part×List UInt8×List UInt8):Option (List Int):=zaa (zam (fun(s:Int×List Int)=>zab (decide (s.1<(d.1.length:Int))) (gd (decide (0<=s.1)) (zaa d.1[s.1.toNat]? fun x=>zaa (zgX (x,d.2.1,d.2.2)) fun(x:Field×Bool)=>zaa (zab x.2 (some !x.1.far) (some false)) fun x=>zaa (zab x (gd (decide (List.length s.2+List.length [s.1]<=LIM)) (some (s.2++[s.1]))) (some s.2)) fun x=>gd (zaF (s.1+1)) (some (Sum.inl (s.1+1,x))))) (some (Sum.inr (s.1,s.2)))) (0,[])) fun(x:Int×List Int)=>some x.2
def zgr:List Part×List UInt8×List UInt8->Option (List Int):=zah zhZ
theorem zmX(d:List Part×List UInt8×List UInt8):zgr d=zhZ d:=congrFun (zad zhZ) d
def zio:TE:=⟨56,[.lst (.nm .Part),.str,.str],[],(.lst (.int .i64)),[],zgr⟩
theorem zzB(d:List Part×List UInt8×List UInt8):zai [zfc] zLl c56 [.t 6] [.lst (.nm .Part),.str,.str] [] (.lst (.int .i64)) [] d=zgr d:=Eq.trans (b:=zhZ d) (by kernel_rfl) (zmX d).symm
def zjV(d:Field×Field):Option Bool:=zaa (zab (d.1.of==d.2.of) (zab (d.1.list==d.2.list) (some (d.1.must==d.2.must)) (some false)) (some false)) fun x=>some x
def zkc:Field×Field->Option Bool:=zah zjV
theorem zoK(d:Field×Field):zkc d=zjV d:=congrFun (zad zjV) d
def zp8:TE:=⟨117,[.st .Field,.st .Field],[],(.bool),[],zkc⟩
theorem zB2(d:Field×Field):zai [] zGv zKj [.t 4] [.st .Field,.st .Field] [] (.bool) [] d=zkc d:=Eq.trans (b:=zjV d) (by kernel_rfl) (zoK d).symm
def zjX(d:List Part×Int×List UInt8×Field):Option Int:=zaa (zgr (d.1,d.2.2.1,d.2.2.2.name)) fun x=>zaa (zam (fun(s:Int×Int×Int)=>zab (decide (s.2.2<(d.1.length:Int))) (gd (decide (0<=s.2.2)) (zaa d.1[s.2.2.toNat]? fun x=>zaa (zgX (x,d.2.2.1,d.2.2.2.name)) fun(x:Field×Bool)=>zaa (zab x.2 (zaa (zkc (d.2.2.2,{name:=x.1.name,of:=x.1.of,list:=x.1.list,must:=x.1.must,far:=x.1.far,hidden:=x.1.hidden,shared:=x.1.shared,needs:=x.1.needs:Field})) fun x=>some !x) (some false)) fun x_1=>zab x_1 (some (Sum.inr (Sum.inr 3))) (zaa (zab x.2 (some x.1.shared) (some false)) fun x_2=>zaa (zab x_2 (gd (zaF (s.1+1)) (some (s.1+1))) (some s.1)) fun x_3=>zaa (zab x.2 (some (decide ((x.1.needs.length:Int)>0))) (some false)) fun x=>zaa (zab x (gd (zaF (s.2.1+1)) (some (s.2.1+1))) (some s.2.1)) fun x=>gd (zaF (s.2.2+1)) (some (Sum.inl (x_3,x,s.2.2+1)))))) (some (Sum.inr (Sum.inl (s.1,s.2.1,s.2.2))))) (0,0,0)) fun(x_1:Int×Int×Int⊕Int)=>zau x_1 (fun d_1=>zab ((x.length:Int)==0) (some 6) (zaa (zab (decide ((x.length:Int)>1)) (zaa (zlY (d.1,d.2.2.1)) fun x_2=>zab (d.2.2.2.name !=x_2) (some (decide (d_1.1<(x.length:Int)))) (some false)) (some false)) fun x_2=>zab x_2 (some 5) (zaa (zab (decide (d_1.2.1>0)) (some (decide ((x.length:Int)>1))) (some false)) fun x=>zab x (some 7) (zaa (zam (fun(s:Int)=>zab (decide (s<(d.2.2.2.needs.length:Int))) (zaa (zam (fun(s_1:Int)=>zab (decide (s_1<(d.1.length:Int))) (gd (decide (0<=s_1)) (zaa d.1[s_1.toNat]? fun x=>gd (decide (0<=s)) (zaa d.2.2.2.needs[s.toNat]? fun x_3=>zaa (zgX (x,d.2.2.1,x_3)) fun(x:Field×Bool)=>zaa (zab x.2 (some (decide ((x.1.needs.length:Int)>0))) (some false)) fun x=>zab x (some (Sum.inr (Sum.inr (Sum.inr (Sum.inr 7))))) (gd (zaF (s_1+1)) (some (Sum.inl (s_1+1))))))) (some (Sum.inr (Sum.inl s_1)))) 0) fun(x:Int⊕Int⊕Int⊕Int)=>zau x (fun d=>gd (zaF (s+1)) (some (Sum.inl (s+1)))) fun r=>some r) (some (Sum.inr (Sum.inl s)))) 0) fun(x:Int⊕Int)=>zau x (fun d=>some 0) fun r=>some r)))) fun r=>some r
def zke:List Part×Int×List UInt8×Field->Option Int:=zah zjX
theorem zoM(d:List Part×Int×List UInt8×Field):zke d=zjX d:=congrFun (zad zjX) d
def zqa:TE:=⟨88,[.lst (.nm .Part),.int .i64,.str,.st .Field],[],(.int .i64),[],zke⟩
theorem zB4(d:List Part×Int×List UInt8×Field):zai [zio,zfc,zp8,zl7] zLH c88 [.t 8] [.lst (.nm .Part),.int .i64,.str,.st .Field] [] (.int .i64) [] d=zke d:=Eq.trans (b:=zjX d) (by kernel_rfl) (zoM d).symm
def zjW(d:List Part):Option CFault:=zaa (zab ((d.length:Int)==0) (some true) (some (decide ((d.length:Int)>4)))) fun x=>zab x (some {pos:=0,type:=[],field:=[],code:=8:CFault}) (zaa (zam (fun(s:Int×Int×List UInt8×List UInt8×Int)=>zab (decide (s.1<(d.length:Int))) (gd (decide (0<=s.1)) (zaa d[s.1.toNat]? fun x=>zaa (zcZ x) fun x=>zab (x.code !=0) (gd (zaF (s.1+1)) (some (Sum.inr (Sum.inr {pos:=s.1+1,type:=[],field:=[],code:=1:CFault})))) (zaa (zam (fun(s_1:Int×Int×List UInt8×List UInt8×Int)=>zab (decide (s_1.1<s.1)) (gd (decide (0<=s_1.1)) (zaa d[s_1.1.toNat]? fun x=>gd (decide (0<=s.1)) (zaa d[s.1.toNat]? fun x_1=>zab (x.name==x_1.name) (gd (zaF (s.1+1)) (some (Sum.inr (Sum.inr (Sum.inr (Sum.inr {pos:=s.1+1,type:=[],field:=[],code:=2:CFault})))))) (gd (zaF (s_1.1+1)) (some (Sum.inl (s_1.1+1,s_1.2.1,s_1.2.2.1,s_1.2.2.2.1,s_1.2.2.2.2))))))) (some (Sum.inr (Sum.inl (s_1.1,s_1.2.1,s_1.2.2.1,s_1.2.2.2.1,s_1.2.2.2.2))))) (0,s.2.1,s.2.2.1,s.2.2.2.1,s.2.2.2.2)) fun(x:Int×Int×List UInt8×List UInt8×Int⊕Int×Int×List UInt8×List UInt8×Int⊕Int×Int×List UInt8×List UInt8×Int⊕CFault)=>zau x (fun d=>gd (zaF (s.1+1)) (some (Sum.inl (s.1+1,d.2.1,d.2.2.1,d.2.2.2.1,d.2.2.2.2)))) fun r=>some r))) (some (Sum.inr (Sum.inl (s.1,s.2.1,s.2.2.1,s.2.2.2.1,s.2.2.2.2))))) (0,0,[],[],0)) fun(x:Int×Int×List UInt8×List UInt8×Int⊕CFault)=>zau x (fun d_1=>zaa (zam (fun(s:Int×Int×List UInt8×List UInt8×Int)=>zab (decide (s.1<(d.length:Int))) (zaa (zam (fun(s_1:Int×Int×List UInt8×List UInt8×Int)=>gd (decide (0<=s.1)) (zaa d[s.1.toNat]? fun x=>zab (decide (s_1.1<(x.types.length:Int))) (gd (decide (0<=s.1)) (zaa d[s.1.toNat]? fun x=>gd (decide (0<=s_1.1)) (zaa x.types[s_1.1.toNat]? fun x=>zaa (zab (x.key !=[]) (zaa (zlY (d,x.name)) fun x_1=>some (x.key !=x_1)) (some false)) fun x_1=>zab x_1 (gd (zaF (s.1+1)) (some (Sum.inr (Sum.inr (Sum.inr (Sum.inr {pos:=s.1+1,type:=x.name,field:=[],code:=4:CFault})))))) (zaa (zam (fun(s_2:Int×Int×List UInt8×List UInt8×Int)=>zab (decide (s_2.1<(x.fields.length:Int))) (gd (decide (0<=s_2.1)) (zaa x.fields[s_2.1.toNat]? fun x_2=>zaa (zke (d,s.1,x.name,x_2)) fun x_3=>zab (x_3 !=0) (gd (zaF (s.1+1)) (gd (decide (0<=s_2.1)) (zaa x.fields[s_2.1.toNat]? fun x_4=>some (Sum.inr (Sum.inr (Sum.inr (Sum.inr (Sum.inr (Sum.inr {pos:=s.1+1,type:=x.name,field:=x_4.name,code:=x_3:CFault}))))))))) (gd (zaF (s_2.1+1)) (some (Sum.inl (s_2.1+1,s_2.2.1,s_2.2.2.1,s_2.2.2.2.1,s_2.2.2.2.2)))))) (some (Sum.inr (Sum.inl (s_2.1,s_2.2.1,s_2.2.2.1,s_2.2.2.2.1,s_2.2.2.2.2))))) (0,s_1.2.1,s_1.2.2.1,s_1.2.2.2.1,s_1.2.2.2.2)) fun(x:Int×Int×List UInt8×List UInt8×Int⊕Int×Int×List UInt8×List UInt8×Int⊕Int×Int×List UInt8×List UInt8×Int⊕Int×Int×List UInt8×List UInt8×Int⊕Int×Int×List UInt8×List UInt8×Int⊕CFault)=>zau x (fun d=>gd (zaF (s_1.1+1)) (some (Sum.inl (s_1.1+1,d.2.1,d.2.2.1,d.2.2.2.1,d.2.2.2.2)))) fun r=>some r)))) (some (Sum.inr (Sum.inl (s_1.1,s_1.2.1,s_1.2.2.1,s_1.2.2.2.1,s_1.2.2.2.2)))))) (0,s.2.1,s.2.2.1,s.2.2.2.1,s.2.2.2.2)) fun(x:Int×Int×List UInt8×List UInt8×Int⊕Int×Int×List UInt8×List UInt8×Int⊕Int×Int×List UInt8×List UInt8×Int⊕CFault)=>zau x (fun d=>gd (zaF (s.1+1)) (some (Sum.inl (s.1+1,d.2.1,d.2.2.1,d.2.2.2.1,d.2.2.2.2)))) fun r=>some r) (some (Sum.inr (Sum.inl (s.1,s.2.1,s.2.2.1,s.2.2.2.1,s.2.2.2.2))))) (0,d_1.2.1,d_1.2.2.1,d_1.2.2.2.1,d_1.2.2.2.2)) fun(x:Int×Int×List UInt8×List UInt8×Int⊕CFault)=>zau x (fun d=>some {pos:=0,type:=[],field:=[],code:=0:CFault}) fun r=>some r) fun r=>some r)
def zkd:List Part->Option CFault:=zah zjW
theorem zoL(d:List Part):zkd d=zjW d:=congrFun (zad zjW) d
def zp9:TE:=⟨53,[.lst (.nm .Part)],[],(.st .CFault),[],zkd⟩
theorem zB3(d:List Part):zai [zdV,zl7,zqa] zLi c53 [.c 2 (some 4)] [.lst (.nm .Part)] [] (.st .CFault) [] d=zkd d:=Eq.trans (b:=zjW d) (by kernel_rfl) (zoL d).symm
def zpL(d:Typ×Field):Option Typ:=zaa (zeC ({name:=d.1.name,key:=d.1.key,fields:=d.1.fields:Typ},d.2.name)) fun x=>zab (decide (x<0)) (gd (decide (List.length d.1.fields<=LIM)) (gd (decide (List.length d.2.needs<=LIM)) (gd (decide (List.length d.1.fields+List.length [{name:=d.2.name,of:=d.2.of,list:=d.2.list,must:=d.2.must,far:=false,hidden:=d.2.hidden,shared:=false,needs:=d.2.needs:Field}]<=LIM)) (some {name:=d.1.name,key:=d.1.key,fields:=d.1.fields++[{name:=d.2.name,of:=d.2.of,list:=d.2.list,must:=d.2.must,far:=false,hidden:=d.2.hidden,shared:=false,needs:=d.2.needs:Field}]:Typ})))) (gd (decide (0+List.length d.1.fields<=LIM)) (zaa (zab d.2.hidden (gd (decide (0<=x)&&decide (x<(d.1.fields.length:Int))) (zaa d.1.fields[x.toNat]? fun x_1=>some ((d.1.name,d.1.key,d.1.fields),([],[]),[],List.set d.1.fields (x.toNat) {name:=x_1.name,of:=x_1.of,list:=x_1.list,must:=x_1.must,far:=x_1.far,hidden:=true,shared:=x_1.shared,needs:=x_1.needs:Field}))) (some ((d.1.name,d.1.key,d.1.fields),([],[]),[],d.1.fields))) fun(x_1:(List UInt8×List UInt8×List Field)×(List UInt8×List UInt8)×List Field×List Field)=>zaa (zab (decide ((d.2.needs.length:Int)>0)) (gd (decide (0+List.length d.2.needs<=LIM)) (gd (decide (0<=x)&&decide (x<(x_1.2.2.2.length:Int))) (zaa x_1.2.2.2[x.toNat]? fun x_2=>some ((x_1.1.1,x_1.1.2.1,x_1.1.2.2),(x_1.2.1.1,x_1.2.1.2),x_1.2.2.1,List.set x_1.2.2.2 (x.toNat) {name:=x_2.name,of:=x_2.of,list:=x_2.list,must:=x_2.must,far:=x_2.far,hidden:=x_2.hidden,shared:=x_2.shared,needs:=d.2.needs:Field})))) (some ((x_1.1.1,x_1.1.2.1,x_1.1.2.2),(x_1.2.1.1,x_1.2.1.2),x_1.2.2.1,x_1.2.2.2))) fun(x:(List UInt8×List UInt8×List Field)×(List UInt8×List UInt8)×List Field×List Field)=>some {name:=x.1.1,key:=x.1.2.1,fields:=x.2.2.2:Typ}))
def zpS:Typ×Field->Option Typ:=zah zpL
theorem zrL(d:Typ×Field):zpS d=zpL d:=congrFun (zad zpL) d
def zvH:TE:=⟨89,[.st .Typ,.st .Field],[],(.st .Typ),[],zpS⟩
theorem zFU(d:Typ×Field):zai [zc9] zLI c89 [.c 4 (some 3)] [.st .Typ,.st .Field] [] (.st .Typ) [] d=zpS d:=Eq.trans (b:=zpL d) (by kernel_rfl) (zrL d).symm
def zpJ(d:List Part):Option Part:=zaa (zam (fun(s:Int×List UInt8×List Typ×List UInt8×List Typ)=>zab (decide (s.1<(d.length:Int))) (zaa (zam (fun(s_1:Int×List UInt8×List Typ×List UInt8×List Typ)=>gd (decide (0<=s.1)) (zaa d[s.1.toNat]? fun x=>zab (decide (s_1.1<(x.types.length:Int))) (gd (decide (0<=s.1)) (zaa d[s.1.toNat]? fun x=>gd (decide (0<=s_1.1)) (zaa x.types[s_1.1.toNat]? fun x=>zaa (zdQ ({name:=s_1.2.2.2.1,types:=s_1.2.2.2.2:Part},x.name)) fun x_1=>zaa (zab (decide (x_1<0)) (zaa (zlY (d,x.name)) fun x_2=>gd (decide (List.length s_1.2.2.2.2+List.length [{name:=x.name,key:=x_2,fields:=[]:Typ}]<=LIM)) (some ((s_1.2.2.2.2.length:Int),s_1.2.1,s_1.2.2.1,s_1.2.2.2.1,s_1.2.2.2.2++[{name:=x.name,key:=x_2,fields:=[]:Typ}]))) (some (x_1,s_1.2.1,s_1.2.2.1,s_1.2.2.2.1,s_1.2.2.2.2))) fun(x_2:Int×List UInt8×List Typ×List UInt8×List Typ)=>zaa (zam (fun(s:Int×List UInt8×List Typ×List UInt8×List Typ)=>zab (decide (s.1<(x.fields.length:Int))) (gd (decide (0<=x_2.1)&&decide (x_2.1<(s.2.2.2.2.length:Int))) (zaa s.2.2.2.2[x_2.1.toNat]? fun x_3=>gd (decide (0<=s.1)) (zaa x.fields[s.1.toNat]? fun x=>zaa (zpS (x_3,x)) fun x=>gd (decide (0<=x_2.1)&&decide (x_2.1<(s.2.2.2.2.length:Int))) (zaa s.2.2.2.2[x_2.1.toNat]? fun x_4=>gd (zaF (s.1+1)) (some (Sum.inl (s.1+1,s.2.1,s.2.2.1,s.2.2.2.1,List.set s.2.2.2.2 (x_2.1.toNat) x))))))) (some (Sum.inr (s.1,s.2.1,s.2.2.1,s.2.2.2.1,s.2.2.2.2)))) (0,x_2.2.1,x_2.2.2.1,x_2.2.2.2.1,x_2.2.2.2.2)) fun(x:Int×List UInt8×List Typ×List UInt8×List Typ)=>gd (zaF (s_1.1+1)) (some (Sum.inl (s_1.1+1,x.2.1,x.2.2.1,x.2.2.2.1,x.2.2.2.2)))))) (some (Sum.inr (s_1.1,s_1.2.1,s_1.2.2.1,s_1.2.2.2.1,s_1.2.2.2.2))))) (0,s.2.1,s.2.2.1,s.2.2.2.1,s.2.2.2.2)) fun(x:Int×List UInt8×List Typ×List UInt8×List Typ)=>gd (zaF (s.1+1)) (some (Sum.inl (s.1+1,x.2.1,x.2.2.1,x.2.2.2.1,x.2.2.2.2)))) (some (Sum.inr (s.1,s.2.1,s.2.2.1,s.2.2.2.1,s.2.2.2.2)))) (0,[],[],[97],[])) fun(x:Int×List UInt8×List Typ×List UInt8×List Typ)=>some {name:=x.2.2.2.1,types:=x.2.2.2.2:Part}
def znL:List Part->Option Part:=zah zpJ
theorem zrJ(d:List Part):znL d=zpJ d:=congrFun (zad zpJ) d
def zvG:TE:=⟨54,[.lst (.nm .Part)],[],(.st .Part),[],znL⟩
theorem zFS(d:List Part):zai [zdn,zl7,zvH] zLj c54 [.c 2 (some 2)] [.lst (.nm .Part)] [] (.st .Part) [] d=znL d:=Eq.trans (b:=zpJ d) (by kernel_rfl) (zrJ d).symm
def zgz(d:List Part):Option (Chart×CFault):=zaa (zkd d) fun x=>zab (x.code !=0) (some ({all:={name:=[],types:=[]:Part},owners:=[]:Chart},x)) (zaa (znL d) fun x_1=>zaa (zcZ x_1) fun x_2=>zab (x_2.code !=0) (some ({all:={name:=[],types:=[]:Part},owners:=[]:Chart},{pos:=0,type:=[],field:=[],code:=8:CFault})) (zaa (zam (fun(s:Int×List UInt8×List Typ×List Own×(Int×List UInt8×List UInt8×Int)×(List UInt8×List Typ)×List Own)=>zab (decide (s.1<(s.2.2.2.2.2.1.2.length:Int))) (gd (decide (0<=s.1)) (zaa s.2.2.2.2.2.1.2[s.1.toNat]? fun x=>zaa (zam (fun(s:Int×List UInt8×List Typ×List Own×(Int×List UInt8×List UInt8×Int)×(List UInt8×List Typ)×List Own)=>zab (decide (s.1<(x.fields.length:Int))) (gd (decide (0<=s.1)) (zaa x.fields[s.1.toNat]? fun x_3=>gd (decide (0<=s.1)) (zaa x.fields[s.1.toNat]? fun x_4=>zaa (zgr (d,x.name,x_4.name)) fun x_5=>gd (decide (List.length s.2.2.2.2.2.2+List.length [{type:=x.name,field:=x_3.name,parts:=x_5:Own}]<=LIM)) (gd (zaF (s.1+1)) (some (Sum.inl (s.1+1,s.2.1,s.2.2.1,s.2.2.2.1,(s.2.2.2.2.1.1,s.2.2.2.2.1.2.1,s.2.2.2.2.1.2.2.1,s.2.2.2.2.1.2.2.2),(s.2.2.2.2.2.1.1,s.2.2.2.2.2.1.2),s.2.2.2.2.2.2++[{type:=x.name,field:=x_3.name,parts:=x_5:Own}]))))))) (some (Sum.inr (s.1,s.2.1,s.2.2.1,s.2.2.2.1,(s.2.2.2.2.1.1,s.2.2.2.2.1.2.1,s.2.2.2.2.1.2.2.1,s.2.2.2.2.1.2.2.2),(s.2.2.2.2.2.1.1,s.2.2.2.2.2.1.2),s.2.2.2.2.2.2)))) (0,s.2.1,s.2.2.1,s.2.2.2.1,(s.2.2.2.2.1.1,s.2.2.2.2.1.2.1,s.2.2.2.2.1.2.2.1,s.2.2.2.2.1.2.2.2),(s.2.2.2.2.2.1.1,s.2.2.2.2.2.1.2),s.2.2.2.2.2.2)) fun(x:Int×List UInt8×List Typ×List Own×(Int×List UInt8×List UInt8×Int)×(List UInt8×List Typ)×List Own)=>gd (zaF (s.1+1)) (some (Sum.inl (s.1+1,x.2.1,x.2.2.1,x.2.2.2.1,(x.2.2.2.2.1.1,x.2.2.2.2.1.2.1,x.2.2.2.2.1.2.2.1,x.2.2.2.2.1.2.2.2),(x.2.2.2.2.2.1.1,x.2.2.2.2.2.1.2),x.2.2.2.2.2.2))))) (some (Sum.inr (s.1,s.2.1,s.2.2.1,s.2.2.2.1,(s.2.2.2.2.1.1,s.2.2.2.2.1.2.1,s.2.2.2.2.1.2.2.1,s.2.2.2.2.1.2.2.2),(s.2.2.2.2.2.1.1,s.2.2.2.2.2.1.2),s.2.2.2.2.2.2)))) (0,[],[],[],(0,[],[],0),(x_1.name,x_1.types),[])) fun(x_3:Int×List UInt8×List Typ×List Own×(Int×List UInt8×List UInt8×Int)×(List UInt8×List Typ)×List Own)=>some ({all:={name:=x_3.2.2.2.2.2.1.1,types:=x_3.2.2.2.2.2.1.2:Part},owners:=x_3.2.2.2.2.2.2:Chart},x)))
def zdR:List Part->Option (Chart×CFault):=zah zgz
theorem zlw(d:List Part):zdR d=zgz d:=congrFun (zad zgz) d
def zg8:TE:=⟨27,[.lst (.nm .Part)],[],(.tup [.st .Chart,.st .CFault]),[],zdR⟩
theorem zwW(d:List Part):zai [zp9,zvG,zdV,zio] zK5 c27 [.c 2 (some 3),.c 3 (some 4)] [.lst (.nm .Part)] [] (.tup [.st .Chart,.st .CFault]) [] d=zdR d:=Eq.trans (b:=zgz d) (by kernel_rfl) (zlw d).symm
def zj0(d:Part×List UInt8×List UInt8):Option Bool:=zaa (zgX (d.1,d.2.1,d.2.2)) fun(x:Field×Bool)=>zaa (zab x.2 (zab (!x.1.far) (some ((x.1.needs.length:Int)==0)) (some false)) (some false)) fun x=>some x
def zih:Part×List UInt8×List UInt8->Option Bool:=zah zj0
theorem zoP(d:Part×List UInt8×List UInt8):zih d=zj0 d:=congrFun (zad zj0) d
def zqc:TE:=⟨154,[.st .Part,.str,.str],[],(.bool),[],zih⟩
theorem zB7(d:Part×List UInt8×List UInt8):zai [zfc] zG4 zKS [.t 6] [.st .Part,.str,.str] [] (.bool) [] d=zih d:=Eq.trans (b:=zj0 d) (by kernel_rfl) (zoP d).symm
def zjZ(d:Part×List UInt8):Option Bool:=zaa (zdQ (d.1,d.2)) fun x=>zaa (zab (decide (x>=0)) (gd (decide (0<=x)) (zaa d.1.types[x.toNat]? fun x=>some (x.key !=[]))) (some false)) fun x=>some x
def zig:Part×List UInt8->Option Bool:=zah zjZ
theorem zoO(d:Part×List UInt8):zig d=zjZ d:=congrFun (zad zjZ) d
def zkk:TE:=⟨156,[.st .Part,.str],[],(.bool),[],zig⟩
theorem zB6(d:Part×List UInt8):zai [zdn] zG6 zKU [.t 4] [.st .Part,.str] [] (.bool) [] d=zig d:=Eq.trans (b:=zjZ d) (by kernel_rfl) (zoO d).symm
def zjY(d:List Part×List UInt8×List UInt8):Option Int:=zaa (zam (fun(s:Int)=>zab (decide (s<(d.1.length:Int))) (gd (decide (0<=s)) (zaa d.1[s.toNat]? fun x=>zaa (zgX (x,d.2.1,d.2.2)) fun(x:Field×Bool)=>zaa (zab x.2 (zab (!x.1.far) (zab (d.2.1==[113,117,101,114,121]) (some true) (gd (decide (0<=s)) (zaa d.1[s.toNat]? fun x=>zaa (zig (x,d.2.1)) fun x=>some x))) (some false)) (some false)) fun x=>zab x (some (Sum.inr (Sum.inr s))) (gd (zaF (s+1)) (some (Sum.inl (s+1)))))) (some (Sum.inr (Sum.inl s)))) 0) fun(x:Int⊕Int)=>zau x (fun d=>some (-1)) fun r=>some r
def zif:List Part×List UInt8×List UInt8->Option Int:=zah zjY
theorem zoN(d:List Part×List UInt8×List UInt8):zif d=zjY d:=congrFun (zad zjY) d
def zqb:TE:=⟨155,[.lst (.nm .Part),.str,.str],[],(.int .i64),[],zif⟩
theorem zB5(d:List Part×List UInt8×List UInt8):zai [zfc,zkk] zG5 zKT [.t 6] [.lst (.nm .Part),.str,.str] [] (.int .i64) [] d=zif d:=Eq.trans (b:=zjY d) (by kernel_rfl) (zoN d).symm
def zmN(d:List Part×Int×List UInt8×List UInt8):Option Int:=zaa (zab (d.2.2.1 !=[113,117,101,114,121]) (gd (decide (0<=d.2.1)) (zaa d.1[d.2.1.toNat]? fun x=>zaa (zih (x,d.2.2.1,d.2.2.2)) fun x=>some x)) (some false)) fun x=>zab x (some d.2.1) (zaa (zif (d.1,d.2.2.1,d.2.2.2)) fun x=>zaa (zab (d.2.2.1==[113,117,101,114,121]) (some true) (some (decide (x<0)))) fun x_1=>zab x_1 (some x) (gd (decide (0<=x)) (zaa d.1[x.toNat]? fun x_2=>zaa (zgX (x_2,d.2.2.1,d.2.2.2)) fun(x_3:Field×Bool)=>gd (decide (0<=d.2.1)) (zaa d.1[d.2.1.toNat]? fun x_4=>zaa (zig (x_4,d.2.2.1)) fun x_5=>zab (!x_5) (some (-1)) (zaa (zam (fun(s:Int)=>zab (decide (s<(x_3.1.needs.length:Int))) (zaa (gd (decide (0<=d.2.1)) (zaa d.1[d.2.1.toNat]? fun x=>gd (decide (0<=s)) (zaa x_3.1.needs[s.toNat]? fun x_6=>zaa (zih (x,d.2.2.1,x_6)) fun x=>zab (!x) (gd (decide (0<=s)) (zaa x_3.1.needs[s.toNat]? fun x=>zaa (zif (d.1,d.2.2.1,x)) fun x=>some (decide (x<0)))) (some false)))) fun x=>zab x (some (Sum.inr (Sum.inr (-1)))) (gd (zaF (s+1)) (some (Sum.inl (s+1))))) (some (Sum.inr (Sum.inl s)))) 0) fun(x_6:Int⊕Int)=>zau x_6 (fun d=>some x) fun r=>some r)))))
def zmY:List Part×Int×List UInt8×List UInt8->Option Int:=zah zmN
theorem zpT(d:List Part×Int×List UInt8×List UInt8):zmY d=zmN d:=congrFun (zad zmN) d
def zsw:TE:=⟨138,[.lst (.nm .Part),.int .i64,.str,.str],[],(.int .i64),[],zmY⟩
theorem zDn(d:List Part×Int×List UInt8×List UInt8):zai [zqc,zqb,zfc,zkk] zGP zKD [.t 8] [.lst (.nm .Part),.int .i64,.str,.str] [] (.int .i64) [] d=zmY d:=Eq.trans (b:=zmN d) (by kernel_rfl) (zpT d).symm
def zmO(d:List Stt×Stt):Option Int:=zaa (zam (fun(s:Int)=>zab (decide (s<(d.1.length:Int))) (gd (decide (0<=s)) (zaa d.1[s.toNat]? fun x=>zab (x.part==d.2.part&&(x.type==d.2.type&&true)) (some (Sum.inr (Sum.inr s))) (gd (zaF (s+1)) (some (Sum.inl (s+1)))))) (some (Sum.inr (Sum.inl s)))) 0) fun(x:Int⊕Int)=>zau x (fun d=>some (-1)) fun r=>some r
def zmZ:List Stt×Stt->Option Int:=zah zmO
theorem zpU(d:List Stt×Stt):zmZ d=zmO d:=congrFun (zad zmO) d
def zsx:TE:=⟨139,[.lst (.nm .Stt),.st .Stt],[],(.int .i64),[],zmZ⟩
theorem zDo(d:List Stt×Stt):zai [] zGQ zKE [.t 4] [.lst (.nm .Stt),.st .Stt] [] (.int .i64) [] d=zmZ d:=Eq.trans (b:=zmO d) (by kernel_rfl) (zpU d).symm
def zeo(d:List Part×Part×Int×List (List UInt8)×List Stt×List (List (List UInt8))):Option (List (List UInt8)×List Stt×List (List (List UInt8))):=gd (decide (0<=d.2.2.1)&&decide (d.2.2.1<(d.2.2.2.2.1.length:Int))) (zaa d.2.2.2.2.1[d.2.2.1.toNat]? fun x=>zaa (zdQ (d.2.1,x.type)) fun x_1=>gd (decide (0<=x_1)) (zaa d.2.1.types[x_1.toNat]? fun x_2=>zaa (zam (fun(s:Int×List (List UInt8)×List Stt×List (List (List UInt8)))=>zab (decide (s.1<(x_2.fields.length:Int))) (gd (decide (0<=s.1)) (zaa x_2.fields[s.1.toNat]? fun x_3=>zab x_3.hidden (gd (zaF (s.1+1)) (some (Sum.inl (s.1+1,s.2.1,s.2.2.1,s.2.2.2)))) (gd (decide (0<=d.2.2.1)&&decide (d.2.2.1<(s.2.2.2.length:Int))) (zaa s.2.2.2[d.2.2.1.toNat]? fun x_4=>gd (decide (List.length x_4<=LIM)) (gd (decide (List.length x_4+List.length [x_3.name]<=LIM)) (zaa (zmY (d.1,x.part,x.type,x_3.name)) fun x=>zab (decide (x<0)) (zaa (zab ((s.2.1.length:Int)==0) (some (x_4++[x_3.name],s.2.2.1,s.2.2.2)) (some (s.2.1,s.2.2.1,s.2.2.2))) fun(x:List (List UInt8)×List Stt×List (List (List UInt8)))=>gd (zaF (s.1+1)) (some (Sum.inl (s.1+1,x.1,x.2.1,x.2.2)))) (zaa (zaa (zd8 x_3.of) fun x_5=>zab (!x_5) (zaa (zmZ (s.2.2.1,{part:=x,type:=x_3.of:Stt})) fun x=>some (decide (x<0))) (some false)) fun x_5=>zaa (zab x_5 (gd (decide (List.length s.2.2.1+List.length [{part:=x,type:=x_3.of:Stt}]<=LIM)) (gd (decide (List.length s.2.2.2+List.length [x_4++[x_3.name]]<=LIM)) (some (s.2.1,s.2.2.1++[{part:=x,type:=x_3.of:Stt}],s.2.2.2++[x_4++[x_3.name]])))) (some (s.2.1,s.2.2.1,s.2.2.2))) fun(x:List (List UInt8)×List Stt×List (List (List UInt8)))=>gd (zaF (s.1+1)) (some (Sum.inl (s.1+1,x.1,x.2.1,x.2.2)))))))))) (some (Sum.inr (s.1,s.2.1,s.2.2.1,s.2.2.2)))) (0,d.2.2.2.1,d.2.2.2.2.1,d.2.2.2.2.2)) fun(x:Int×List (List UInt8)×List Stt×List (List (List UInt8)))=>some (x.2.1,x.2.2.1,x.2.2.2)))
def zeD:List Part×Part×Int×List (List UInt8)×List Stt×List (List (List UInt8))->Option (List (List UInt8)×List Stt×List (List (List UInt8))):=zah zeo
theorem zjo(d:List Part×Part×Int×List (List UInt8)×List Stt×List (List (List UInt8))):zeD d=zeo d:=congrFun (zad zeo) d
def ziR:TE:=⟨107,[.mpb 0 0,.lst (.nm .Part),.st .Part,.int .i64],[.box ⟨none,[some ((.lst (.nm .Stt)),.no),some ((.lst (.lst .str)),.no),some ((.lst .str),.no)]⟩ [.own 1,.own 2,.lst .str],.arr (.nm .Stt) .no,.arr (.lst .str) .no],(.tup []),[.box ⟨none,[some ((.lst (.nm .Stt)),.no),some ((.lst (.lst .str)),.no),some ((.lst .str),.no)]⟩ [.own 3,.own 4,.lst .str],.dead,.dead,.arr (.nm .Stt) .no,.arr (.lst .str) .no],zeD⟩
theorem ztL(d:List Part×Part×Int×List (List UInt8)×List Stt×List (List (List UInt8))):zai [zdn,zsw,zfd,zsx] zGq zKe [] [.mpb 0 0,.lst (.nm .Part),.st .Part,.int .i64] [.box ⟨none,[some ((.lst (.nm .Stt)),.no),some ((.lst (.lst .str)),.no),some ((.lst .str),.no)]⟩ [.own 1,.own 2,.lst .str],.arr (.nm .Stt) .no,.arr (.lst .str) .no] (.tup []) [.box ⟨none,[some ((.lst (.nm .Stt)),.no),some ((.lst (.lst .str)),.no),some ((.lst .str),.no)]⟩ [.own 3,.own 4,.lst .str],.dead,.dead,.arr (.nm .Stt) .no,.arr (.lst .str) .no] d=zeD d:=Eq.trans (b:=zeo d) (by kernel_rfl) (zjo d).symm
def zpM(d:List Part×Part):Option (List (List UInt8)×List Stt×List (List (List UInt8))):=zaa (zam (fun(s:Int×List (List UInt8)×List Stt×List (List (List UInt8)))=>zab (decide (s.1<(s.2.2.1.length:Int))) (zaa (zeD (d.1,d.2,s.1,s.2.1,s.2.2.1,s.2.2.2)) fun(x:List (List UInt8)×List Stt×List (List (List UInt8)))=>gd (zaF (s.1+1)) (some (Sum.inl (s.1+1,x.1,x.2.1,x.2.2)))) (some (Sum.inr (s.1,s.2.1,s.2.2.1,s.2.2.2)))) (0,[],[{part:=0,type:=[113,117,101,114,121]:Stt}],[[]])) fun(x:Int×List (List UInt8)×List Stt×List (List (List UInt8)))=>some (x.2.1,x.2.2.1,x.2.2.2)
def znM:List Part×Part->Option (List (List UInt8)×List Stt×List (List (List UInt8))):=zah zpM
theorem zrM(d:List Part×Part):znM d=zpM d:=congrFun (zad zpM) d
def zvI:TE:=⟨79,[.lst (.nm .Part),.st .Part],[],(.mpb 0 0),[.box ⟨none,[some ((.lst (.nm .Stt)),.no),some ((.lst (.lst .str)),.no),some ((.lst .str),.no)]⟩ [.own 1,.own 2,.lst .str],.arr (.nm .Stt) .no,.arr (.lst .str) .no],znM⟩
theorem zFV(d:List Part×Part):zai [ziR] zLD c79 [.t 4] [.lst (.nm .Part),.st .Part] [] (.mpb 0 0) [.box ⟨none,[some ((.lst (.nm .Stt)),.no),some ((.lst (.lst .str)),.no),some ((.lst .str),.no)]⟩ [.own 1,.own 2,.lst .str],.arr (.nm .Stt) .no,.arr (.lst .str) .no] d=znM d:=Eq.trans (b:=zpM d) (by kernel_rfl) (zrM d).symm
def zjN(d:List Part):Option (Bool×List (List UInt8)):=zaa (zdR d) fun(x:Chart×CFault)=>zab (x.2.code !=0) (some (false,[])) (zaa (znM (d,{name:=x.1.all.name,types:=x.1.all.types:Part})) fun(x:List (List UInt8)×List Stt×List (List (List UInt8)))=>gd (decide (List.length x.1<=LIM)) (some ((x.1.length:Int)==0,x.1)))
def zj2:List Part->Option (Bool×List (List UInt8)):=zah zjN
theorem zoC(d:List Part):zj2 d=zjN d:=congrFun (zad zjN) d
def zp1:TE:=⟨39,[.lst (.nm .Part)],[],(.tup [.bool,.lst .str]),[],zj2⟩
theorem zBU(d:List Part):zai [zg8,zvI] zLe c39 [.t 2,.t 3] [.lst (.nm .Part)] [] (.tup [.bool,.lst .str]) [] d=zj2 d:=Eq.trans (b:=zjN d) (by kernel_rfl) (zoC d).symm
def zfz(d:Part×Part):Option (List (List UInt8)):=zaa (zaa (zcZ d.1) fun x=>zab (x.code !=0) (some true) (zaa (zcZ d.2) fun x=>some (x.code !=0))) fun x=>zab x (some []) (zaa (zam (fun(s:Int×List (List UInt8))=>zab (decide (s.1<(d.1.types.length:Int))) (zaa (zam (fun(s_1:Int×List (List UInt8))=>gd (decide (0<=s.1)) (zaa d.1.types[s.1.toNat]? fun x=>zab (decide (s_1.1<(x.fields.length:Int))) (gd (decide (0<=s.1)) (zaa d.1.types[s.1.toNat]? fun x=>gd (decide (0<=s_1.1)) (zaa x.fields[s_1.1.toNat]? fun x=>gd (decide (0<=s.1)) (zaa d.1.types[s.1.toNat]? fun x_1=>zaa (zgX (d.2,x_1.name,x.name)) fun(x_2:Field×Bool)=>zaa (zab (!x.hidden) (zab (!x_2.2) (some true) (zab x_2.1.hidden (some true) (zab (x_2.1.of !=x.of) (some true) (some (x_2.1.list !=x.list))))) (some false)) fun x_3=>zaa (zab x_3 (gd (decide (0<=s.1)) (zaa d.1.types[s.1.toNat]? fun x_4=>gd (decide (List.length x_4.name+List.length [46]<=BIG)) (gd (decide (List.length (x_4.name++[46])+List.length x.name<=BIG)) (gd (decide (List.length s_1.2+List.length [x_4.name++[46]++x.name]<=LIM)) (some (s_1.2++[x_4.name++[46]++x.name])))))) (some s_1.2)) fun x=>gd (zaF (s_1.1+1)) (some (Sum.inl (s_1.1+1,x))))))) (some (Sum.inr (s_1.1,s_1.2))))) (0,s.2)) fun(x:Int×List (List UInt8))=>gd (zaF (s.1+1)) (some (Sum.inl (s.1+1,x.2)))) (some (Sum.inr (s.1,s.2)))) (0,[])) fun(x:Int×List (List UInt8))=>some x.2)
def zd5:Part×Part->Option (List (List UInt8)):=zah zfz
theorem zj1(d:Part×Part):zd5 d=zfz d:=congrFun (zad zfz) d
def zkj:TE:=⟨40,[.st .Part,.st .Part],[],(.lst .str),[],zd5⟩
theorem zvg(d:Part×Part):zai [zdV,zfc] zLf c40 [.t 4] [.st .Part,.st .Part] [] (.lst .str) [] d=zd5 d:=Eq.trans (b:=zfz d) (by kernel_rfl) (zj1 d).symm
def zgA(d:List Part×List Part):Option Bool:=zaa (zdR d.1) fun(x:Chart×CFault)=>zaa (zdR d.2) fun(x_1:Chart×CFault)=>zaa (zj2 d.2) fun(x_2:Bool×List (List UInt8))=>zaa (zab (x.2.code==0) (zab (x_1.2.code==0) (zab x_2.1 (zaa (zd5 ({name:=x.1.all.name,types:=x.1.all.types:Part},{name:=x_1.1.all.name,types:=x_1.1.all.types:Part})) fun x=>some ((x.length:Int)==0)) (some false)) (some false)) (some false)) fun x=>some x
def ze3:List Part×List Part->Option Bool:=zah zgA
theorem zlx(d:List Part×List Part):ze3 d=zgA d:=congrFun (zad zgA) d
def zl4:TE:=⟨19,[.lst (.nm .Part),.lst (.nm .Part)],[],(.bool),[],ze3⟩
theorem zwX(d:List Part×List Part):zai [zg8,zp1,zkj] zK3 c19 [.t 4] [.lst (.nm .Part),.lst (.nm .Part)] [] (.bool) [] d=ze3 d:=Eq.trans (b:=zgA d) (by kernel_rfl) (zlx d).symm
def ztZ(d:Int×Int×Int):Option Bool:=zaa (zab (decide (d.1>=d.2.1)) (some (decide (d.1<=d.2.2))) (some false)) fun x=>some x
def zlB:Int×Int×Int->Option Bool:=zah ztZ
theorem zt1(d:Int×Int×Int):zlB d=ztZ d:=congrFun (zad ztZ) d
def zp3:TE:=⟨59,[.int .i64,.int .i64,.int .i64],[],(.bool),[],zlB⟩
theorem zIb(d:Int×Int×Int):zai [] zLo c59 [.t 6] [.int .i64,.int .i64,.int .i64] [] (.bool) [] d=zlB d:=Eq.trans (b:=ztZ d) (by kernel_rfl) (zt1 d).symm
def zhU(d:List UInt8):Option Bool:=zaa (zam (fun(s:Int)=>zab (decide (s<(↑(List.length (List.map zaP d)):Int))) (gd (decide (0<=s)) (zaa (List.map zaP d)[s.toNat]? fun x=>zaa (zaa (zlB (IntKind.wrap IntKind.i64 x,97,122)) fun x_1=>zab (!x_1) (zab (x !=95) (zab (s==0) (some true) (zaa (zlB (IntKind.wrap IntKind.i64 x,48,57)) fun x=>some !x)) (some false)) (some false)) fun x=>zab x (some (Sum.inr (Sum.inr false))) (gd (zaF (s+1)) (some (Sum.inl (s+1)))))) (some (Sum.inr (Sum.inl s)))) 0) fun(x:Int⊕Bool)=>zau x (fun d_1=>zaa (zlB ((d.length:Int),1,9)) fun x=>some x) fun r=>some r
def zic:List UInt8->Option Bool:=zah zhU
theorem zmQ(d:List UInt8):zic d=zhU d:=congrFun (zad zhU) d
def znS:TE:=⟨125,[.str],[],(.bool),[],zic⟩
theorem zzw(d:List UInt8):zai [zp3] zGC zKq [.t 2] [.str] [] (.bool) [] d=zic d:=Eq.trans (b:=zhU d) (by kernel_rfl) (zmQ d).symm
def zaG(d:List (List UInt8)×List UInt8):Option Int:=zaa (zam (fun(s:Int)=>zab (decide (s<(d.1.length:Int))) (gd (decide (0<=s)) (zaa d.1[s.toNat]? fun x=>zab (d.2==x) (some (Sum.inr (Sum.inr s))) (gd (zaF (s+1)) (some (Sum.inl (s+1)))))) (some (Sum.inr (Sum.inl s)))) 0) fun(x:Int⊕Int)=>zau x (fun d=>some (-1)) fun r=>some r
def zaH:List (List UInt8)×List UInt8->Option Int:=zah zaG
theorem zci(d:List (List UInt8)×List UInt8):zaH d=zaG d:=congrFun (zad zaG) d
def zbA:TE:=⟨147,[.lst .str,.str],[],(.int .i64),[],zaH⟩
theorem zgp(d:List (List UInt8)×List UInt8):zai [] zGX zKL [.t 4] [.lst .str,.str] [] (.int .i64) [] d=zaH d:=Eq.trans (b:=zaG d) (by kernel_rfl) (zci d).symm
def zax(d:List (List UInt8)×List UInt8):Option Bool:=zaa (zaH (d.1,d.2)) fun x=>some (decide (x>=0))
def zan:List (List UInt8)×List UInt8->Option Bool:=zah zax
theorem zbQ(d:List (List UInt8)×List UInt8):zan d=zax d:=congrFun (zad zax) d
def zay:TE:=⟨126,[.lst .str,.str],[],(.bool),[],zan⟩
theorem zfr(d:List (List UInt8)×List UInt8):zai [zbA] zGD zKr [.t 4] [.lst .str,.str] [] (.bool) [] d=zan d:=Eq.trans (b:=zax d) (by kernel_rfl) (zbQ d).symm
def zhT(d:List UInt8):Option Bool:=zaa (zaa (zic d) fun x=>zab x (zab (decide ((d.length:Int)<=8)) (zaa d[Int.toNat 0]? fun x=>zab (zaP x !=95) (zaa (zan ([[105,110,116],[116,101,120,116],[98,111,111,108],[112,97,114,116],[116,121,112,101],[107,101,121],[102,97,114],[104,105,100,100,101,110],[115,104,97,114,101,100],[110,101,101,100,115]],d)) fun x=>some !x) (some false)) (some false)) (some false)) fun x=>some x
def zcM:List UInt8->Option Bool:=zah zhT
theorem zmP(d:List UInt8):zcM d=zhT d:=congrFun (zad zhT) d
def zdm:TE:=⟨101,[.str],[],(.bool),[],zcM⟩
theorem zzv(d:List UInt8):zai [znS,zay] zGk zJ8 [.t 2] [.str] [] (.bool) [] d=zcM d:=Eq.trans (b:=zhT d) (by kernel_rfl) (zmP d).symm
def zcS(d:Typ×List UInt8):Option Bool:=some (d.1.name==d.2)
def zca:Typ×List UInt8->Option Bool:=zah zcS
theorem zhs(d:Typ×List UInt8):zca d=zcS d:=congrFun (zad zcS) d
def zc5:TE:=⟨123,[.st .Typ,.ip [.str]],[],(.bool),[],zca⟩
theorem zq9(d:Typ×List UInt8):zai [] zGB zKp [.t 3] [.st .Typ,.ip [.str]] [] (.bool) [] d=zca d:=Eq.trans (b:=zcS d) (by kernel_rfl) (zhs d).symm
def zcw(d:List Typ×List UInt8):Option Int:=zaa (zam (fun(s:Int)=>zab (decide (s<(d.1.length:Int))) (gd (decide (0<=s)) (zaa d.1[s.toNat]? fun x=>zaa (zca (x,d.2)) fun x=>zab x (some (Sum.inr (Sum.inr s))) (gd (zaF (s+1)) (some (Sum.inl (s+1)))))) (some (Sum.inr (Sum.inl s)))) 0) fun(x:Int⊕Int)=>zau x (fun d=>some (-1)) fun r=>some r
def zcD:List Typ×List UInt8->Option Int:=zah zcw
theorem zg0(d:List Typ×List UInt8):zcD d=zcw d:=congrFun (zad zcw) d
def zf2:TE:=⟨65,[.lst (.nm .Typ),.fn 123 [.ip [.str]]],[],(.int .i64),[],zcD⟩
theorem zpo(d:List Typ×List UInt8):zai [zc5] zIf c65 [.t 4] [.lst (.nm .Typ),.fn 123 [.ip [.str]]] [] (.int .i64) [] d=zcD d:=Eq.trans (b:=zcw d) (by kernel_rfl) (zg0 d).symm
def zek(d:Part×List UInt8):Option (Typ×Bool):=zaa (zcD (d.1.types,d.2)) fun x=>zab (decide (x<0)) (some ({name:=[],key:=[],fields:=[]:Typ},false)) (gd (decide (0<=x)) (zaa d.1.types[x.toNat]? fun x=>some (x,true)))
def zaQ:Part×List UInt8->Option (Typ×Bool):=zah zek
theorem zjk(d:Part×List UInt8):zaQ d=zek d:=congrFun (zad zek) d
def zaL:TE:=⟨94,[.st .Part,.str],[],(.tup [.st .Typ,.bool]),[],zaQ⟩
theorem ztH(d:Part×List UInt8):zai [zf2,zc5] zLN c94 [.c 4 (some 3),.t 5] [.st .Part,.str] [] (.tup [.st .Typ,.bool]) [] d=zaQ d:=Eq.trans (b:=zek d) (by kernel_rfl) (zjk d).symm
def zcp(d:Field):Option Bool:=zaa (zab (d.of==[105,110,116]) (some true) (zab (d.of==[116,101,120,116]) (some true) (some (d.of==[98,111,111,108])))) fun x=>some x
def zbm:Field->Option Bool:=zah zcp
theorem zgP(d:Field):zbm d=zcp d:=congrFun (zad zcp) d
def zbo:TE:=⟨110,[.st .Field],[],(.bool),[],zbm⟩
theorem zph(d:Field):zai [] zGt zKh [.t 2] [.st .Field] [] (.bool) [] d=zbm d:=Eq.trans (b:=zcp d) (by kernel_rfl) (zgP d).symm
def zbY(d:List UInt8):Option Bool:=zaa (zcM d) fun x=>some !x
def zbj:List UInt8->Option Bool:=zah zbY
theorem zfJ(d:List UInt8):zbj d=zbY d:=congrFun (zad zbY) d
def za0:TE:=⟨148,[.str],[],(.bool),[],zbj⟩
theorem znH(d:List UInt8):zai [zdm] zGY zKM [.t 2] [.str] [] (.bool) [] d=zbj d:=Eq.trans (b:=zbY d) (by kernel_rfl) (zfJ d).symm
def zbF(d:List (List UInt8)):Option Int:=zaa (zam (fun(s:Int)=>zab (decide (s<(d.length:Int))) (gd (decide (0<=s)) (zaa d[s.toNat]? fun x=>zaa (zbj x) fun x=>zab x (some (Sum.inr (Sum.inr s))) (gd (zaF (s+1)) (some (Sum.inl (s+1)))))) (some (Sum.inr (Sum.inl s)))) 0) fun(x:Int⊕Int)=>zau x (fun d=>some (-1)) fun r=>some r
def zbI:List (List UInt8)->Option Int:=zah zbF
theorem ze0(d:List (List UInt8)):zbI d=zbF d:=congrFun (zad zbF) d
def zdZ:TE:=⟨124,[.lst .str,.fn 148 []],[],(.int .i64),[],zbI⟩
theorem zmG(d:List (List UInt8)):zai [za0] zyu zId [.t 4] [.lst .str,.fn 148 []] [] (.int .i64) [] d=zbI d:=Eq.trans (b:=zbF d) (by kernel_rfl) (ze0 d).symm
def zbD(d:List (List UInt8)):Option Bool:=zaa (zbI d) fun x=>some (decide (x>=0))
def za6:List (List UInt8)->Option Bool:=zah zbD
theorem zeY(d:List (List UInt8)):za6 d=zbD d:=congrFun (zad zbD) d
def zdX:TE:=⟨97,[.lst .str,.fn 148 []],[],(.bool),[],za6⟩
theorem zmE(d:List (List UInt8)):zai [zdZ,za0] zFX c97 [.t 4] [.lst .str,.fn 148 []] [] (.bool) [] d=za6 d:=Eq.trans (b:=zbD d) (by kernel_rfl) (zeY d).symm
def zbZ(d:Field):Option Bool:=zaa (zaa (zcM d.name) fun x=>zab (!x) (some true) (zaa (zcM d.of) fun x=>zab (!x) (zaa (zbm d) fun x=>zab (!x) (some true) (zaa (za6 d.needs) fun x=>some x)) (zaa (za6 d.needs) fun x=>some x))) fun x=>some x
def zbk:Field->Option Bool:=zah zbZ
theorem zfK(d:Field):zbk d=zbZ d:=congrFun (zad zbZ) d
def za1:TE:=⟨149,[.st .Field,.ip [.fn 148 []]],[],(.bool),[],zbk⟩
theorem znI(d:Field):zai [zdm,zbo,zdX,za0] zGZ zKN [.t 3] [.st .Field,.ip [.fn 148 []]] [] (.bool) [] d=zbk d:=Eq.trans (b:=zbZ d) (by kernel_rfl) (zfK d).symm
def zbG(d:List Field):Option Int:=zaa (zam (fun(s:Int)=>zab (decide (s<(d.length:Int))) (gd (decide (0<=s)) (zaa d[s.toNat]? fun x=>zaa (zbk x) fun x=>zab x (some (Sum.inr (Sum.inr s))) (gd (zaF (s+1)) (some (Sum.inl (s+1)))))) (some (Sum.inr (Sum.inl s)))) 0) fun(x:Int⊕Int)=>zau x (fun d=>some (-1)) fun r=>some r
def zbJ:List Field->Option Int:=zah zbG
theorem ze1(d:List Field):zbJ d=zbG d:=congrFun (zad zbG) d
def zd0:TE:=⟨98,[.lst (.nm .Field),.fn 149 [.ip [.fn 148 []]]],[],(.int .i64),[],zbJ⟩
theorem zmH(d:List Field):zai [za1] zxs c98 [.t 4] [.lst (.nm .Field),.fn 149 [.ip [.fn 148 []]]] [] (.int .i64) [] d=zbJ d:=Eq.trans (b:=zbG d) (by kernel_rfl) (ze1 d).symm
def zbE(d:List Field):Option Bool:=zaa (zbJ d) fun x=>some (decide (x>=0))
def za7:List Field->Option Bool:=zah zbE
theorem zeZ(d:List Field):za7 d=zbE d:=congrFun (zad zbE) d
def zdY:TE:=⟨68,[.lst (.nm .Field),.fn 149 [.ip [.fn 148 []]]],[],(.bool),[],za7⟩
theorem zmF(d:List Field):zai [zd0,za1] zzK c68 [.t 4] [.lst (.nm .Field),.fn 149 [.ip [.fn 148 []]]] [] (.bool) [] d=za7 d:=Eq.trans (b:=zbE d) (by kernel_rfl) (zeZ d).symm
def zcq(d:Typ):Option Bool:=zaa (zaa (zcM d.name) fun x=>zab (!x) (some true) (zab (d.key !=[]) (zaa (zcM d.key) fun x=>zab (!x) (some true) (zaa (zlB ((d.fields.length:Int),1,8)) fun x=>zab (!x) (some true) (zaa (za7 d.fields) fun x=>some x))) (zaa (zlB ((d.fields.length:Int),1,8)) fun x=>zab (!x) (some true) (zaa (za7 d.fields) fun x=>some x)))) fun x=>some x
def zcA:Typ->Option Bool:=zah zcq
theorem zgR(d:Typ):zcA d=zcq d:=congrFun (zad zcq) d
def zfZ:TE:=⟨128,[.st .Typ],[],(.bool),[],zcA⟩
theorem zpi(d:Typ):zai [zdm,zp3,zdY,za1] zGF zKt [.t 2] [.st .Typ] [] (.bool) [] d=zcA d:=Eq.trans (b:=zcq d) (by kernel_rfl) (zgR d).symm
def zdE(d:Typ):Option (List (List UInt8)):=zaa (zam (fun(s:Int×List (List UInt8))=>zab (decide (s.1<(d.fields.length:Int))) (gd (decide (0<=s.1)) (zaa d.fields[s.1.toNat]? fun x=>gd (decide (List.length s.2+List.length [x.name]<=LIM)) (gd (zaF (s.1+1)) (some (Sum.inl (s.1+1,s.2++[x.name])))))) (some (Sum.inr (s.1,s.2)))) (0,[])) fun(x:Int×List (List UInt8))=>some x.2
def zdJ:Typ->Option (List (List UInt8)):=zah zdE
theorem zia(d:Typ):zdJ d=zdE d:=congrFun (zad zdE) d
def zhP:TE:=⟨130,[.st .Typ],[],(.lst .str),[],zdJ⟩
theorem zrE(d:Typ):zai [] zGH zKv [.t 2] [.st .Typ] [] (.lst .str) [] d=zdJ d:=Eq.trans (b:=zdE d) (by kernel_rfl) (zia d).symm
def zjQ(d:List (List UInt8)):Option Bool:=zaa (zam (fun(s:Int)=>zab (decide (s<(d.length:Int))) (gd (decide (0<=s)) (zaa d[s.toNat]? fun x=>gd (decide (0<=0)&&decide (0<=s)&&decide (s<=(d.length:Int))) (zaa (zan (List.take (s.toNat-Int.toNat 0) (List.drop (Int.toNat 0) d),x)) fun x=>zab x (some (Sum.inr (Sum.inr true))) (gd (zaF (s+1)) (some (Sum.inl (s+1))))))) (some (Sum.inr (Sum.inl s)))) 0) fun(x:Int⊕Bool)=>zau x (fun d=>some false) fun r=>some r
def zj7:List (List UInt8)->Option Bool:=zah zjQ
theorem zoF(d:List (List UInt8)):zj7 d=zjQ d:=congrFun (zad zjQ) d
def zp4:TE:=⟨129,[.lst .str],[],(.bool),[],zj7⟩
theorem zBX(d:List (List UInt8)):zai [zay] zGG zKu [.t 2] [.lst .str] [] (.bool) [] d=zj7 d:=Eq.trans (b:=zjQ d) (by kernel_rfl) (zoF d).symm
def zbr(d:Field×Part):Option Bool:=zaa (zaQ (d.2,d.1.of)) fun(x:Typ×Bool)=>zaa (zaa (zbm d.1) fun x_1=>zab (!x_1) (some !x.2) (some false)) fun x=>some x
def zbu:Field×Part->Option Bool:=zah zbr
theorem zey(d:Field×Part):zbu d=zbr d:=congrFun (zad zbr) d
def zaN:TE:=⟨127,[.st .Field,.ep .Part],[],(.bool),[],zbu⟩
theorem zlt(d:Field×Part):zai [zaL,zbo] zGE zKs [.t 3] [.st .Field,.ep .Part] [] (.bool) [] d=zbu d:=Eq.trans (b:=zbr d) (by kernel_rfl) (zey d).symm
def zba(d:List Field×Part):Option Int:=zaa (zam (fun(s:Int)=>zab (decide (s<(d.1.length:Int))) (gd (decide (0<=s)) (zaa d.1[s.toNat]? fun x=>zaa (zbu (x,d.2)) fun x=>zab x (some (Sum.inr (Sum.inr s))) (gd (zaF (s+1)) (some (Sum.inl (s+1)))))) (some (Sum.inr (Sum.inl s)))) 0) fun(x:Int⊕Int)=>zau x (fun d=>some (-1)) fun r=>some r
def zbf:List Field×Part->Option Int:=zah zba
theorem zeb(d:List Field×Part):zbf d=zba d:=congrFun (zad zba) d
def zdc:TE:=⟨98,[.lst (.nm .Field),.fn 127 [.ep .Part]],[],(.int .i64),[],zbf⟩
theorem zkZ(d:List Field×Part):zai [zaN] zxs c98 [.t 4] [.lst (.nm .Field),.fn 127 [.ep .Part]] [] (.int .i64) [] d=zbf d:=Eq.trans (b:=zba d) (by kernel_rfl) (zeb d).symm
def za8(d:List Field×Part):Option Bool:=zaa (zbf (d.1,d.2)) fun x=>some (decide (x>=0))
def zbd:List Field×Part->Option Bool:=zah za8
theorem zd9(d:List Field×Part):zbd d=za8 d:=congrFun (zad za8) d
def zda:TE:=⟨68,[.lst (.nm .Field),.fn 127 [.ep .Part]],[],(.bool),[],zbd⟩
theorem zkX(d:List Field×Part):zai [zdc,zaN] zzK c68 [.t 4] [.lst (.nm .Field),.fn 127 [.ep .Part]] [] (.bool) [] d=zbd d:=Eq.trans (b:=za8 d) (by kernel_rfl) (zd9 d).symm
def zcU(d:Field×List UInt8):Option Bool:=some (d.1.name==d.2)
def zbH:Field×List UInt8->Option Bool:=zah zcU
theorem zhu(d:Field×List UInt8):zbH d=zcU d:=congrFun (zad zcU) d
def zbL:TE:=⟨99,[.st .Field,.ip [.str]],[],(.bool),[],zbH⟩
theorem zrb(d:Field×List UInt8):zai [] zLQ c99 [.t 3] [.st .Field,.ip [.str]] [] (.bool) [] d=zbH d:=Eq.trans (b:=zcU d) (by kernel_rfl) (zhu d).symm
def zbR(d:List Field×List UInt8):Option Int:=zaa (zam (fun(s:Int)=>zab (decide (s<(d.1.length:Int))) (gd (decide (0<=s)) (zaa d.1[s.toNat]? fun x=>zaa (zbH (x,d.2)) fun x=>zab x (some (Sum.inr (Sum.inr s))) (gd (zaF (s+1)) (some (Sum.inl (s+1)))))) (some (Sum.inr (Sum.inl s)))) 0) fun(x:Int⊕Int)=>zau x (fun d=>some (-1)) fun r=>some r
def zbn:List Field×List UInt8->Option Int:=zah zbR
theorem zdT(d:List Field×List UInt8):zbn d=zbR d:=congrFun (zad zbR) d
def zcI:TE:=⟨98,[.lst (.nm .Field),.fn 99 [.ip [.str]]],[],(.int .i64),[],zbn⟩
theorem zpp(d:List Field×List UInt8):zai [zbL] zxs c98 [.t 4] [.lst (.nm .Field),.fn 99 [.ip [.str]]] [] (.int .i64) [] d=zbn d:=Eq.trans (b:=zbR d) (by kernel_rfl) (zdT d).symm
def zel(d:Typ×List UInt8):Option (Field×Bool):=zaa (zbn (d.1.fields,d.2)) fun x=>zab (decide (x<0)) (some ({name:=[],of:=[],list:=false,must:=false,far:=false,hidden:=false,shared:=false,needs:=[]:Field},false)) (gd (decide (0<=x)) (zaa d.1.fields[x.toNat]? fun x=>some (x,true)))
def zbx:Typ×List UInt8->Option (Field×Bool):=zah zel
theorem zjl(d:Typ×List UInt8):zbx d=zel d:=congrFun (zad zel) d
def zby:TE:=⟨67,[.st .Typ,.str],[],(.tup [.st .Field,.bool]),[],zbx⟩
theorem ztI(d:Typ×List UInt8):zai [zcI,zbL] zIg c67 [.c 4 (some 8),.t 5] [.st .Typ,.str] [] (.tup [.st .Field,.bool]) [] d=zbx d:=Eq.trans (b:=zel d) (by kernel_rfl) (zjl d).symm
def zb5(d:(List UInt8×List UInt8)×List UInt8×List Field):Option ((Field×Bool)×List Field):=zaa (zbn (d.2.2,d.2.1)) fun x=>zab (decide (x<0)) (some (({name:=[],of:=[],list:=false,must:=false,far:=false,hidden:=false,shared:=false,needs:=[]:Field},false),d.2.2)) (gd (decide (0<=x)&&decide (x<(d.2.2.length:Int))) (zaa d.2.2[x.toNat]? fun x=>some ((x,true),d.2.2)))
def zcb:(List UInt8×List UInt8)×List UInt8×List Field->Option ((Field×Bool)×List Field):=zah zb5
theorem zgb(d:(List UInt8×List UInt8)×List UInt8×List Field):zcb d=zb5 d:=congrFun (zad zb5) d
def zfa:TE:=⟨67,[.agg [.str,.str,.own 0],.str],[.arr (.nm .Field) .no],(.tup [.st .Field,.bool]),[.arr (.nm .Field) .no],zcb⟩
theorem zox(d:(List UInt8×List UInt8)×List UInt8×List Field):zai [zcI,zbL] zIg c67 [.c 4 (some 8),.t 5] [.agg [.str,.str,.own 0],.str] [.arr (.nm .Field) .no] (.tup [.st .Field,.bool]) [.arr (.nm .Field) .no] d=zcb d:=Eq.trans (b:=zb5 d) (by kernel_rfl) (zgb d).symm
def zcR(d:Field):Option Bool:=some (decide ((d.needs.length:Int)>0))
def zaZ:Field->Option Bool:=zah zcR
theorem zhr(d:Field):zaZ d=zcR d:=congrFun (zad zcR) d
def zaK:TE:=⟨100,[.st .Field],[],(.bool),[],zaZ⟩
theorem zq8(d:Field):zai [] zGj zJ7 [.t 2] [.st .Field] [] (.bool) [] d=zaZ d:=Eq.trans (b:=zcR d) (by kernel_rfl) (zhr d).symm
def zbW(d:Field):Option Bool:=zaa (zab (d.of==[105,110,116]) (zab (!d.list) (zaa (zaZ d) fun x=>some !x) (some false)) (some false)) fun x=>some x
def zbi:Field->Option Bool:=zah zbW
theorem zfH(d:Field):zbi d=zbW d:=congrFun (zad zbW) d
def zb2:TE:=⟨150,[.st .Field],[],(.bool),[],zbi⟩
theorem znF(d:Field):zai [zaK] zG0 zKO [.t 2] [.st .Field] [] (.bool) [] d=zbi d:=Eq.trans (b:=zbW d) (by kernel_rfl) (zfH d).symm
def zcT(d:Typ):Option Bool:=zab (d.key==[]) (some false) (zaa (zbx (d,d.key)) fun(x:Field×Bool)=>zaa (zab (!x.2) (some true) (zaa (zbi {name:=x.1.name,of:=x.1.of,list:=x.1.list,must:=x.1.must,far:=x.1.far,hidden:=x.1.hidden,shared:=x.1.shared,needs:=x.1.needs:Field}) fun x_1=>zab (!x_1) (some true) (zab (!x.1.must) (some true) (zab x.1.far (some true) (some x.1.hidden))))) fun x=>some x)
def zc0:Typ->Option Bool:=zah zcT
theorem zht(d:Typ):zc0 d=zcT d:=congrFun (zad zcT) d
def zg9:TE:=⟨131,[.st .Typ],[],(.bool),[],zc0⟩
theorem zra(d:Typ):zai [zby,zb2] zGI zKw [.t 2] [.st .Typ] [] (.bool) [] d=zc0 d:=Eq.trans (b:=zcT d) (by kernel_rfl) (zht d).symm
def zcr(d:Typ×Field):Option Bool:=zaa (zab d.2.far (some d.2.shared) (some false)) fun x=>zab x (some true) (zaa (zaZ d.2) fun x=>zab (!x) (some false) (zaa (zab (d.2.of !=[105,110,116]) (some true) (zab d.2.list (some true) (zab d.2.far (some true) (zab d.2.must (some true) (zab (d.2.name==d.1.key) (some true) (some (d.1.key==[]))))))) fun x=>zab x (some true) (zaa (zam (fun(s:Int)=>zab (decide (s<(d.2.needs.length:Int))) (gd (decide (0<=s)) (zaa d.2.needs[s.toNat]? fun x=>zaa (zbx (d.1,x)) fun(x_1:Field×Bool)=>zaa (zab (!x_1.2) (some true) (zaa (zbi {name:=x_1.1.name,of:=x_1.1.of,list:=x_1.1.list,must:=x_1.1.must,far:=x_1.1.far,hidden:=x_1.1.hidden,shared:=x_1.1.shared,needs:=x_1.1.needs:Field}) fun x_2=>zab (!x_2) (some true) (zab (decide (s>0)) (gd (zaF (s-1)) (gd (decide (0<=s-1)) (zaa d.2.needs[Int.toNat (s-1)]? fun x_3=>some (Op.bytesLess x x_3 ||x==x_3)))) (some false)))) fun x=>zab x (some (Sum.inr (Sum.inr true))) (gd (zaF (s+1)) (some (Sum.inl (s+1)))))) (some (Sum.inr (Sum.inl s)))) 0) fun(x:Int⊕Bool)=>zau x (fun d=>some false) fun r=>some r)))
def zbS:Typ×Field->Option Bool:=zah zcr
theorem zgS(d:Typ×Field):zbS d=zcr d:=congrFun (zad zcr) d
def zbp:TE:=⟨132,[.st .Typ,.st .Field],[],(.bool),[],zbS⟩
theorem zpj(d:Typ×Field):zai [zaK,zby,zb2] zGJ zKx [.t 4] [.st .Typ,.st .Field] [] (.bool) [] d=zbS d:=Eq.trans (b:=zcr d) (by kernel_rfl) (zgS d).symm
def zb8(d:List Field×Typ):Option Int:=zaa (zam (fun(s:Int)=>zab (decide (s<(d.1.length:Int))) (gd (decide (0<=s)) (zaa d.1[s.toNat]? fun x=>zaa (zbS (d.2,x)) fun x=>zab x (some (Sum.inr (Sum.inr s))) (gd (zaF (s+1)) (some (Sum.inl (s+1)))))) (some (Sum.inr (Sum.inl s)))) 0) fun(x:Int⊕Int)=>zau x (fun d=>some (-1)) fun r=>some r
def zcf:List Field×Typ->Option Int:=zah zb8
theorem zge(d:List Field×Typ):zcf d=zb8 d:=congrFun (zad zb8) d
def zfg:TE:=⟨98,[.lst (.nm .Field),.fn 1048708 [.st .Typ]],[],(.int .i64),[],zcf⟩
theorem zoA(d:List Field×Typ):zai [zbp] zxs c98 [.t 4] [.lst (.nm .Field),.fn 1048708 [.st .Typ]] [] (.int .i64) [] d=zcf d:=Eq.trans (b:=zb8 d) (by kernel_rfl) (zge d).symm
def zb6(d:List Field×Typ):Option Bool:=zaa (zcf (d.1,d.2)) fun x=>some (decide (x>=0))
def zcd:List Field×Typ->Option Bool:=zah zb6
theorem zgc(d:List Field×Typ):zcd d=zb6 d:=congrFun (zad zb6) d
def zfe:TE:=⟨68,[.lst (.nm .Field),.fn 1048708 [.st .Typ]],[],(.bool),[],zcd⟩
theorem zoy(d:List Field×Typ):zai [zfg,zbp] zzK c68 [.t 4] [.lst (.nm .Field),.fn 1048708 [.st .Typ]] [] (.bool) [] d=zcd d:=Eq.trans (b:=zb6 d) (by kernel_rfl) (zgc d).symm
def zbs(d:Field):Option Bool:=some (d.of==[113,117,101,114,121])
def zbv:Field->Option Bool:=zah zbs
theorem zez(d:Field):zbv d=zbs d:=congrFun (zad zbs) d
def zaO:TE:=⟨133,[.st .Field],[],(.bool),[],zbv⟩
theorem zlu(d:Field):zai [] zGK zKy [.t 2] [.st .Field] [] (.bool) [] d=zbv d:=Eq.trans (b:=zbs d) (by kernel_rfl) (zez d).symm
def zbb(d:List Field):Option Int:=zaa (zam (fun(s:Int)=>zab (decide (s<(d.length:Int))) (gd (decide (0<=s)) (zaa d[s.toNat]? fun x=>zaa (zbv x) fun x=>zab x (some (Sum.inr (Sum.inr s))) (gd (zaF (s+1)) (some (Sum.inl (s+1)))))) (some (Sum.inr (Sum.inl s)))) 0) fun(x:Int⊕Int)=>zau x (fun d=>some (-1)) fun r=>some r
def zbg:List Field->Option Int:=zah zbb
theorem zec(d:List Field):zbg d=zbb d:=congrFun (zad zbb) d
def zdd:TE:=⟨98,[.lst (.nm .Field),.fn 133 []],[],(.int .i64),[],zbg⟩
theorem zk0(d:List Field):zai [zaO] zxs c98 [.t 4] [.lst (.nm .Field),.fn 133 []] [] (.int .i64) [] d=zbg d:=Eq.trans (b:=zbb d) (by kernel_rfl) (zec d).symm
def za9(d:List Field):Option Bool:=zaa (zbg d) fun x=>some (decide (x>=0))
def zbe:List Field->Option Bool:=zah za9
theorem zea(d:List Field):zbe d=za9 d:=congrFun (zad za9) d
def zdb:TE:=⟨68,[.lst (.nm .Field),.fn 133 []],[],(.bool),[],zbe⟩
theorem zkY(d:List Field):zai [zdd,zaO] zzK c68 [.t 4] [.lst (.nm .Field),.fn 133 []] [] (.bool) [] d=zbe d:=Eq.trans (b:=za9 d) (by kernel_rfl) (zea d).symm
def zbX(d:Part×Int):Option Int:=gd (decide (0<=d.2)) (zaa d.1.types[d.2.toNat]? fun x=>gd (decide (0<=0)&&decide (0<=d.2)&&decide (d.2<=(d.1.types.length:Int))) (zaa (zaQ ({name:=[],types:=List.take (d.2.toNat-Int.toNat 0) (List.drop (Int.toNat 0) d.1.types):Part},x.name)) fun(x_1:Typ×Bool)=>zaa (zcA x) fun x_2=>zab x_2 (some 1) (zaa (zab x_1.2 (some true) (zaa (zdJ x) fun x=>zaa (zj7 x) fun x=>some x)) fun x_3=>zab x_3 (some 2) (zaa (zbd (x.fields,d.1)) fun x_4=>zab x_4 (some 3) (zaa (zc0 x) fun x_5=>zab x_5 (some 4) (zaa (zcd (x.fields,x)) fun x_6=>zab x_6 (some 5) (zaa (zbe x.fields) fun x=>zab x (some 7) (some 0))))))))
def zb0:Part×Int->Option Int:=zah zbX
theorem zfI(d:Part×Int):zb0 d=zbX d:=congrFun (zad zbX) d
def zeO:TE:=⟨102,[.st .Part,.int .i64],[],(.int .i64),[],zb0⟩
theorem znG(d:Part×Int):zai [zaL,zfZ,zhP,zp4,zda,zaN,zg9,zfe,zbp,zdb,zaO] zGl zJ9 [.t 4] [.st .Part,.int .i64] [] (.int .i64) [] d=zb0 d:=Eq.trans (b:=zbX d) (by kernel_rfl) (zfI d).symm
def zcz(d:List UInt8):Option (Int×List Int):=zaa (zhK ()) fun x=>gd (decide (List.length d<=LIM)) (some ((d.length:Int),List.map zaP d))
def zcG:List UInt8->Option (Int×List Int):=zah zcz
theorem zg3(d:List UInt8):zcG d=zcz d:=congrFun (zad zcz) d
def zf5:TE:=⟨51,[.mpb 0 0,.str],[.box bdB [.nilp,.e0]],(.tup [.int .i64,.nilf]),[.box bdB [.mpb 0 0,.own 1],.arr (.int .u8) .no],zcG⟩
theorem zps(d:List UInt8):zai [zhR] zIe c51 [.t 4,.t 5] [.mpb 0 0,.str] [.box bdB [.nilp,.e0]] (.tup [.int .i64,.nilf]) [.box bdB [.mpb 0 0,.own 1],.arr (.int .u8) .no] d=zcG d:=Eq.trans (b:=zcz d) (by kernel_rfl) (zg3 d).symm
def zbc(d:List UInt8×List Int):Option (Int×List Int):=zaa (zdU d.2) fun x=>gd (decide (List.length x=List.length d.2)) (gd (decide (0<List.length x)&&decide (List.length x+List.length d.1<=LIM)) (some ((d.1.length:Int),x++List.map zaP d.1)))
def zas:List UInt8×List Int->Option (Int×List Int):=zah zbc
theorem zed(d:List UInt8×List Int):zas d=zbc d:=congrFun (zad zbc) d
def zde:TE:=⟨51,[.mpb 0 0,.str],[.box bdB [.mpb 0 0,.own 1],.arr (.int .u8) .no],(.tup [.int .i64,.nilf]),[.box bdB [.mpb 0 0,.own 2],.dead,.arr (.int .u8) .no],zas⟩
theorem zk1(d:List UInt8×List Int):zai [zd1] zIe c51 [.t 4,.t 5] [.mpb 0 0,.str] [.box bdB [.mpb 0 0,.own 1],.arr (.int .u8) .no] (.tup [.int .i64,.nilf]) [.box bdB [.mpb 0 0,.own 2],.dead,.arr (.int .u8) .no] d=zas d:=Eq.trans (b:=zbc d) (by kernel_rfl) (zed d).symm
def zdA(d:Field):Option (List UInt8):=zaa (zab d.list (gd (decide (List.length [91]+List.length d.of<=BIG)) (gd (decide (List.length ([91]++d.of)+List.length [93]<=BIG)) (some ([91]++d.of++[93])))) (some d.of)) fun x=>zaa (zab d.must (gd (decide (List.length x+List.length [33]<=BIG)) (some (x++[33]))) (some x)) fun x=>gd (decide (List.length [32,32]+List.length d.name<=BIG)) (gd (decide (List.length ([32,32]++d.name)+List.length [32]<=BIG)) (gd (decide (List.length ([32,32]++d.name++[32])+List.length x<=BIG)) (zaa (zam (fun(s:List UInt8×Int)=>zab (decide (s.2<(↑(List.length [d.far,d.hidden,d.shared]):Int))) (gd (decide (0<=s.2)) (zaa [d.far,d.hidden,d.shared][s.2.toNat]? fun x=>zaa (zab x (gd (decide (0<=s.2)) (zaa [[32,102,97,114],[32,104,105,100,100,101,110],[32,115,104,97,114,101,100]][s.2.toNat]? fun x=>gd (decide (List.length s.1+List.length x<=BIG)) (some (s.1++x)))) (some s.1)) fun x=>gd (zaF (s.2+1)) (some (Sum.inl (x,s.2+1))))) (some (Sum.inr (s.1,s.2)))) ([32,32]++d.name++[32]++x,0)) fun(x:List UInt8×Int)=>zaa (zaZ d) fun x_1=>zaa (zab x_1 (zaa (zdL (d.needs,[32])) fun x_2=>gd (decide (List.length [32,110,101,101,100,115,32]+List.length x_2<=BIG)) (gd (decide (List.length x.1+List.length ([32,110,101,101,100,115,32]++x_2)<=BIG)) (some (x.1++([32,110,101,101,100,115,32]++x_2))))) (some x.1)) fun x=>gd (decide (List.length x+List.length [10]<=BIG)) (some (x++[10])))))
def zdH:Field->Option (List UInt8):=zah zdA
theorem zh6(d:Field):zdH d=zdA d:=congrFun (zad zdA) d
def zhM:TE:=⟨134,[.st .Field],[],(.str),[],zdH⟩
theorem zrA(d:Field):zai [zaK,zhS] zGL zKz [.t 2] [.st .Field] [] (.str) [] d=zdH d:=Eq.trans (b:=zdA d) (by kernel_rfl) (zh6 d).symm
def zdD(d:Part):Option (List UInt8):=gd (decide (List.length [112,97,114,116,32]+List.length d.name<=BIG)) (gd (decide (List.length ([112,97,114,116,32]++d.name)+List.length [10]<=BIG)) (zaa (zcG ([112,97,114,116,32]++d.name++[10])) fun(x:Int×List Int)=>zaa (zam (fun(s:Int×List Int)=>zab (decide (s.1<(d.types.length:Int))) (gd (decide (0<=s.1)) (zaa d.types[s.1.toNat]? fun x=>gd (decide (List.length [116,121,112,101,32]+List.length x.name<=BIG)) (zaa (zas ([116,121,112,101,32]++x.name,s.2)) fun(x_1:Int×List Int)=>zaa (zab (x.key !=[]) (gd (decide (List.length [32,107,101,121,32]+List.length x.key<=BIG)) (zaa (zas ([32,107,101,121,32]++x.key,x_1.2)) fun(x:Int×List Int)=>some x.2)) (some x_1.2)) fun x_2=>zaa (zas ([10],x_2)) fun(x_3:Int×List Int)=>zaa (zam (fun(s:Int×List Int)=>zab (decide (s.1<(x.fields.length:Int))) (gd (decide (0<=s.1)) (zaa x.fields[s.1.toNat]? fun x=>zaa (zdH x) fun x=>zaa (zas (x,s.2)) fun(x:Int×List Int)=>gd (zaF (s.1+1)) (some (Sum.inl (s.1+1,x.2))))) (some (Sum.inr (s.1,s.2)))) (0,x_3.2)) fun(x:Int×List Int)=>gd (zaF (s.1+1)) (some (Sum.inl (s.1+1,x.2)))))) (some (Sum.inr (s.1,s.2)))) (0,x.2)) fun(x:Int×List Int)=>zaa (ziI x.2) fun x=>some x))
def zdI:Part->Option (List UInt8):=zah zdD
theorem zh9(d:Part):zdI d=zdD d:=congrFun (zad zdD) d
def zhO:TE:=⟨103,[.st .Part],[],(.str),[],zdI⟩
theorem zrD(d:Part):zai [zf5,zde,zhM,zl8] zGm zKa [.t 2] [.st .Part] [] (.str) [] d=zdI d:=Eq.trans (b:=zdD d) (by kernel_rfl) (zh9 d).symm
def zej(d:Part):Option PFault:=zab (decide ((d.types.length:Int)>5)) (some {pos:=6,code:=6:PFault}) (zaa (zcM d.name) fun x=>zab (!x) (some {pos:=0,code:=1:PFault}) (zaa (zab ((d.types.length:Int)==0) (some true) (zaa d.types[Int.toNat 0]? fun x=>zab (x.name !=[113,117,101,114,121]) (some true) (zaa d.types[Int.toNat 0]? fun x=>some (x.key !=[])))) fun x=>zab x (some {pos:=0,code:=7:PFault}) (zaa (zam (fun(s:Int×Int×Int)=>zab (decide (s.1<(d.types.length:Int))) (zaa (zb0 (d,s.1)) fun x=>zab (decide (x>0)) (gd (zaF (s.1+1)) (some (Sum.inr (Sum.inr {pos:=s.1+1,code:=x:PFault})))) (gd (zaF (s.1+1)) (some (Sum.inl (s.1+1,s.2.1,s.2.2))))) (some (Sum.inr (Sum.inl (s.1,s.2.1,s.2.2))))) (0,0,0)) fun(x:Int×Int×Int⊕PFault)=>zau x (fun d_1=>zaa (zdI d) fun x=>zab (decide ((x.length:Int)>1500)) (some {pos:=0,code:=6:PFault}) (some {pos:=0,code:=0:PFault})) fun r=>some r)))
def zex:Part->Option PFault:=zah zej
theorem zjj(d:Part):zex d=zej d:=congrFun (zad zej) d
def ziO:TE:=⟨73,[.st .Part],[],(.st .PFault),[],zex⟩
theorem ztG(d:Part):zai [zdm,zeO,zhO] zLy c73 [.c 2 (some 2)] [.st .Part] [] (.st .PFault) [] d=zex d:=Eq.trans (b:=zej d) (by kernel_rfl) (zjj d).symm
def zhW(d:Part):Option Bool:=zaa (zex d) fun x=>some (x.pos==0&&(x.code==0&&true))
def zd6:Part->Option Bool:=zah zhW
theorem zmS(d:Part):zd6 d=zhW d:=congrFun (zad zhW) d
def zfb:TE:=⟨32,[.st .Part],[],(.bool),[],zd6⟩
theorem zzy(d:Part):zai [ziO] zK9 c32 [.t 2] [.st .Part] [] (.bool) [] d=zd6 d:=Eq.trans (b:=zhW d) (by kernel_rfl) (zmS d).symm
def zct(d:Part×Part):Option Bool:=some (d.1.name==d.2.name)
def zcB:Part×Part->Option Bool:=zah zct
theorem zgW(d:Part×Part):zcB d=zct d:=congrFun (zad zct) d
def zbq:TE:=⟨61,[.st .Part,.ep .Part],[],(.bool),[],zcB⟩
theorem zpl(d:Part×Part):zai [] zLq c61 [.t 3] [.st .Part,.ep .Part] [] (.bool) [] d=zcB d:=Eq.trans (b:=zct d) (by kernel_rfl) (zgW d).symm
def zb9(d:List Part×Part):Option Int:=zaa (zam (fun(s:Int)=>zab (decide (s<(d.1.length:Int))) (gd (decide (0<=s)) (zaa d.1[s.toNat]? fun x=>zaa (zcB (x,d.2)) fun x=>zab x (some (Sum.inr (Sum.inr s))) (gd (zaF (s+1)) (some (Sum.inl (s+1)))))) (some (Sum.inr (Sum.inl s)))) 0) fun(x:Int⊕Int)=>zau x (fun d=>some (-1)) fun r=>some r
def zcg:List Part×Part->Option Int:=zah zb9
theorem zgf(d:List Part×Part):zcg d=zb9 d:=congrFun (zad zb9) d
def zfh:TE:=⟨93,[.lst (.nm .Part),.fn 61 [.ep .Part]],[],(.int .i64),[],zcg⟩
theorem zoB(d:List Part×Part):zai [zbq] zLM c93 [.t 4] [.lst (.nm .Part),.fn 61 [.ep .Part]] [] (.int .i64) [] d=zcg d:=Eq.trans (b:=zb9 d) (by kernel_rfl) (zgf d).symm
def zb7(d:List Part×Part):Option Bool:=zaa (zcg (d.1,d.2)) fun x=>some (decide (x>=0))
def zce:List Part×Part->Option Bool:=zah zb7
theorem zgd(d:List Part×Part):zce d=zb7 d:=congrFun (zad zb7) d
def zff:TE:=⟨60,[.lst (.nm .Part),.fn 61 [.ep .Part]],[],(.bool),[],zce⟩
theorem zoz(d:List Part×Part):zai [zfh,zbq] zLp c60 [.t 4] [.lst (.nm .Part),.fn 61 [.ep .Part]] [] (.bool) [] d=zce d:=Eq.trans (b:=zb7 d) (by kernel_rfl) (zgd d).symm
def zjP(d:List Part×List UInt8):Option (List UInt8):=zaa (zam (fun(s:Int)=>zab (decide (s<(d.1.length:Int))) (gd (decide (0<=s)) (zaa d.1[s.toNat]? fun x=>zaa (zaQ (x,d.2)) fun(x:Typ×Bool)=>zab (x.1.key !=[]) (some (Sum.inr (Sum.inr x.1.key))) (gd (zaF (s+1)) (some (Sum.inl (s+1)))))) (some (Sum.inr (Sum.inl s)))) 0) fun(x:Int⊕List UInt8)=>zau x (fun d=>some []) fun r=>some r
def zgV:List Part×List UInt8->Option (List UInt8):=zah zjP
theorem zoE(d:List Part×List UInt8):zgV d=zjP d:=congrFun (zad zjP) d
def zhb:TE:=⟨62,[.lst (.nm .Part),.str],[],(.str),[],zgV⟩
theorem zBW(d:List Part×List UInt8):zai [zaL] zLr c62 [.t 4] [.lst (.nm .Part),.str] [] (.str) [] d=zgV d:=Eq.trans (b:=zjP d) (by kernel_rfl) (zoE d).symm
def zdC(d:Part×List UInt8×List UInt8):Option (Field×Bool):=zaa (zaQ (d.1,d.2.1)) fun(x:Typ×Bool)=>zaa (zbx ({name:=x.1.name,key:=x.1.key,fields:=x.1.fields:Typ},d.2.2)) fun(x:Field×Bool)=>some ({name:=x.1.name,of:=x.1.of,list:=x.1.list,must:=x.1.must,far:=x.1.far,hidden:=x.1.hidden,shared:=x.1.shared,needs:=x.1.needs:Field},x.2)
def zaY:Part×List UInt8×List UInt8->Option (Field×Bool):=zah zdC
theorem zh8(d:Part×List UInt8×List UInt8):zaY d=zdC d:=congrFun (zad zdC) d
def zaD:TE:=⟨74,[.st .Part,.str,.str],[],(.tup [.st .Field,.bool]),[],zaY⟩
theorem zrC(d:Part×List UInt8×List UInt8):zai [zaL,zby] zLz c74 [.c 6 (some 8),.t 7] [.st .Part,.str,.str] [] (.tup [.st .Field,.bool]) [] d=zaY d:=Eq.trans (b:=zdC d) (by kernel_rfl) (zh8 d).symm
def zfA(d:List Part×List UInt8×List UInt8):Option (List Field):=zaa (zam (fun(s:Int×List Field)=>zab (decide (s.1<(d.1.length:Int))) (gd (decide (0<=s.1)) (zaa d.1[s.1.toNat]? fun x=>zaa (zaY (x,d.2.1,d.2.2)) fun(x:Field×Bool)=>zaa (zab x.2 (gd (decide (List.length s.2+List.length [{name:=x.1.name,of:=x.1.of,list:=x.1.list,must:=x.1.must,far:=x.1.far,hidden:=x.1.hidden,shared:=x.1.shared,needs:=x.1.needs:Field}]<=LIM)) (some (s.2++[{name:=x.1.name,of:=x.1.of,list:=x.1.list,must:=x.1.must,far:=x.1.far,hidden:=x.1.hidden,shared:=x.1.shared,needs:=x.1.needs:Field}]))) (some s.2)) fun x=>gd (zaF (s.1+1)) (some (Sum.inl (s.1+1,x))))) (some (Sum.inr (s.1,s.2)))) (0,[])) fun(x:Int×List Field)=>some x.2
def zcl:List Part×List UInt8×List UInt8->Option (List Field):=zah zfA
theorem zj4(d:List Part×List UInt8×List UInt8):zcl d=zfA d:=congrFun (zad zfA) d
def zb3:TE:=⟨69,[.lst (.nm .Part),.str,.str],[],(.lst (.nm .Field)),[],zcl⟩
theorem zvh(d:List Part×List UInt8×List UInt8):zai [zaD] zLv c69 [.t 6] [.lst (.nm .Part),.str,.str] [] (.lst (.nm .Field)) [] d=zcl d:=Eq.trans (b:=zfA d) (by kernel_rfl) (zj4 d).symm
def zfD(d:Field×Field):Option Bool:=zaa (zab (d.1.of !=d.2.of) (some true) (zab (d.1.list !=d.2.list) (some true) (some (d.1.must !=d.2.must)))) fun x=>some x
def zd7:Field×Field->Option Bool:=zah zfD
theorem zj8(d:Field×Field):zd7 d=zfD d:=congrFun (zad zfD) d
def zc8:TE:=⟨95,[.st .Field,.ep .Field],[],(.bool),[],zd7⟩
theorem zvk(d:Field×Field):zai [] zLO c95 [.t 3] [.st .Field,.ep .Field] [] (.bool) [] d=zd7 d:=Eq.trans (b:=zfD d) (by kernel_rfl) (zj8 d).symm
def zet(d:List Field×Field):Option Int:=zaa (zam (fun(s:Int)=>zab (decide (s<(d.1.length:Int))) (gd (decide (0<=s)) (zaa d.1[s.toNat]? fun x=>zaa (zd7 (x,d.2)) fun x=>zab x (some (Sum.inr (Sum.inr s))) (gd (zaF (s+1)) (some (Sum.inl (s+1)))))) (some (Sum.inr (Sum.inl s)))) 0) fun(x:Int⊕Int)=>zau x (fun d=>some (-1)) fun r=>some r
def zeI:List Field×Field->Option Int:=zah zet
theorem zjt(d:List Field×Field):zeI d=zet d:=congrFun (zad zet) d
def ziW:TE:=⟨98,[.lst (.nm .Field),.fn 95 [.ep .Field]],[],(.int .i64),[],zeI⟩
theorem ztQ(d:List Field×Field):zai [zc8] zxs c98 [.t 4] [.lst (.nm .Field),.fn 95 [.ep .Field]] [] (.int .i64) [] d=zeI d:=Eq.trans (b:=zet d) (by kernel_rfl) (zjt d).symm
def zeq(d:List Field×Field):Option Bool:=zaa (zeI (d.1,d.2)) fun x=>some (decide (x>=0))
def zeF:List Field×Field->Option Bool:=zah zeq
theorem zjq(d:List Field×Field):zeF d=zeq d:=congrFun (zad zeq) d
def ziT:TE:=⟨68,[.lst (.nm .Field),.fn 95 [.ep .Field]],[],(.bool),[],zeF⟩
theorem ztN(d:List Field×Field):zai [ziW,zc8] zzK c68 [.t 4] [.lst (.nm .Field),.fn 95 [.ep .Field]] [] (.bool) [] d=zeF d:=Eq.trans (b:=zeq d) (by kernel_rfl) (zjq d).symm
def zhX(d:List Part×Typ):Option (List UInt8):=zaa (zam (fun(s:Int)=>zab (decide (s<(d.2.fields.length:Int))) (gd (decide (0<=s)) (zaa d.2.fields[s.toNat]? fun x=>zaa (zcl (d.1,d.2.name,x.name)) fun x_1=>zaa (zeF (x_1,x)) fun x_2=>zab x_2 (some (Sum.inr (Sum.inr x.name))) (gd (zaF (s+1)) (some (Sum.inl (s+1)))))) (some (Sum.inr (Sum.inl s)))) 0) fun(x:Int⊕List UInt8)=>zau x (fun d=>some []) fun r=>some r
def zie:List Part×Typ->Option (List UInt8):=zah zhX
theorem zmT(d:List Part×Typ):zie d=zhX d:=congrFun (zad zhX) d
def znU:TE:=⟨63,[.lst (.nm .Part),.st .Typ],[],(.str),[],zie⟩
theorem zzz(d:List Part×Typ):zai [zb3,ziT,zc8] zLs c63 [.t 4] [.lst (.nm .Part),.st .Typ] [] (.str) [] d=zie d:=Eq.trans (b:=zhX d) (by kernel_rfl) (zmT d).symm
def zgE(d:List Part×List UInt8×List UInt8):Option (List Int):=zaa (zam (fun(s:Int×List Int)=>zab (decide (s.1<(d.1.length:Int))) (gd (decide (0<=s.1)) (zaa d.1[s.1.toNat]? fun x=>zaa (zaY (x,d.2.1,d.2.2)) fun(x:Field×Bool)=>zaa (zab x.2 (some !x.1.far) (some false)) fun x=>zaa (zab x (gd (decide (List.length s.2+List.length [s.1]<=LIM)) (some (s.2++[s.1]))) (some s.2)) fun x=>gd (zaF (s.1+1)) (some (Sum.inl (s.1+1,x))))) (some (Sum.inr (s.1,s.2)))) (0,[])) fun(x:Int×List Int)=>some x.2
def ze4:List Part×List UInt8×List UInt8->Option (List Int):=zah zgE
theorem zlC(d:List Part×List UInt8×List UInt8):ze4 d=zgE d:=congrFun (zad zgE) d
def zhc:TE:=⟨33,[.lst (.nm .Part),.str,.str],[],(.lst (.int .i64)),[],ze4⟩
theorem zw1(d:List Part×List UInt8×List UInt8):zai [zaD] zLa c33 [.t 6] [.lst (.nm .Part),.str,.str] [] (.lst (.int .i64)) [] d=ze4 d:=Eq.trans (b:=zgE d) (by kernel_rfl) (zlC d).symm
def zgF(d:List Part×List UInt8×List UInt8):Option (List (List UInt8)):=zaa (zcl (d.1,d.2.1,d.2.2)) fun x=>zaa (zam (fun(s:Int)=>zab (decide (s<(x.length:Int))) (gd (decide (0<=s)) (zaa x[s.toNat]? fun x=>zaa (zaZ x) fun x_1=>zab x_1 (some (Sum.inr (Sum.inr x.needs))) (gd (zaF (s+1)) (some (Sum.inl (s+1)))))) (some (Sum.inr (Sum.inl s)))) 0) fun(x:Int⊕List (List UInt8))=>zau x (fun d=>some []) fun r=>some r
def zdS:List Part×List UInt8×List UInt8->Option (List (List UInt8)):=zah zgF
theorem zlD(d:List Part×List UInt8×List UInt8):zdS d=zgF d:=congrFun (zad zgF) d
def zdW:TE:=⟨72,[.lst (.nm .Part),.str,.str],[],(.lst .str),[],zdS⟩
theorem zw2(d:List Part×List UInt8×List UInt8):zai [zb3,zaK] zLx c72 [.t 6] [.lst (.nm .Part),.str,.str] [] (.lst .str) [] d=zdS d:=Eq.trans (b:=zgF d) (by kernel_rfl) (zlD d).symm
def zcV(d:List UInt8×List Part×List UInt8):Option Bool:=zaa (zdS (d.2.1,d.2.2,d.1)) fun x=>some (decide ((x.length:Int)>0))
def zc1:List UInt8×List Part×List UInt8->Option Bool:=zah zcV
theorem zhv(d:List UInt8×List Part×List UInt8):zc1 d=zcV d:=congrFun (zad zcV) d
def zbM:TE:=⟨96,[.str,.ip [.lst (.nm .Part)],.ip [.str]],[],(.bool),[],zc1⟩
theorem zrc(d:List UInt8×List Part×List UInt8):zai [zdW] zLP c96 [.t 4] [.str,.ip [.lst (.nm .Part)],.ip [.str]] [] (.bool) [] d=zc1 d:=Eq.trans (b:=zcV d) (by kernel_rfl) (zhv d).symm
def zcx(d:List (List UInt8)×List Part×List UInt8):Option Int:=zaa (zam (fun(s:Int)=>zab (decide (s<(d.1.length:Int))) (gd (decide (0<=s)) (zaa d.1[s.toNat]? fun x=>zaa (zc1 (x,d.2.1,d.2.2)) fun x=>zab x (some (Sum.inr (Sum.inr s))) (gd (zaF (s+1)) (some (Sum.inl (s+1)))))) (some (Sum.inr (Sum.inl s)))) 0) fun(x:Int⊕Int)=>zau x (fun d=>some (-1)) fun r=>some r
def zcE:List (List UInt8)×List Part×List UInt8->Option Int:=zah zcx
theorem zg1(d:List (List UInt8)×List Part×List UInt8):zcE d=zcx d:=congrFun (zad zcx) d
def zf3:TE:=⟨124,[.lst .str,.fn 96 [.ip [.lst (.nm .Part)],.ip [.str]]],[],(.int .i64),[],zcE⟩
theorem zpq(d:List (List UInt8)×List Part×List UInt8):zai [zbM] zyu zId [.t 4] [.lst .str,.fn 96 [.ip [.lst (.nm .Part)],.ip [.str]]] [] (.int .i64) [] d=zcE d:=Eq.trans (b:=zcx d) (by kernel_rfl) (zg1 d).symm
def zcu(d:List (List UInt8)×List Part×List UInt8):Option Bool:=zaa (zcE (d.1,d.2.1,d.2.2)) fun x=>some (decide (x>=0))
def zbU:List (List UInt8)×List Part×List UInt8->Option Bool:=zah zcu
theorem zgY(d:List (List UInt8)×List Part×List UInt8):zbU d=zcu d:=congrFun (zad zcu) d
def zf0:TE:=⟨97,[.lst .str,.fn 96 [.ip [.lst (.nm .Part)],.ip [.str]]],[],(.bool),[],zbU⟩
theorem zpm(d:List (List UInt8)×List Part×List UInt8):zai [zf3,zbM] zFX c97 [.t 4] [.lst .str,.fn 96 [.ip [.lst (.nm .Part)],.ip [.str]]] [] (.bool) [] d=zbU d:=Eq.trans (b:=zcu d) (by kernel_rfl) (zgY d).symm
def zem(d:List Part×List UInt8×List UInt8):Option Int:=zaa (ze4 (d.1,d.2.1,d.2.2)) fun x=>zaa (zcl (d.1,d.2.1,d.2.2)) fun x_1=>zaa (zam (fun(s:Int×Int)=>zab (decide (s.2<(x_1.length:Int))) (gd (decide (0<=s.2)) (zaa x_1[s.2.toNat]? fun x=>zaa (zab x.shared (gd (zaF (s.1+1)) (some (s.1+1))) (some s.1)) fun x=>gd (zaF (s.2+1)) (some (Sum.inl (x,s.2+1))))) (some (Sum.inr (s.1,s.2)))) (0,0)) fun(x_2:Int×Int)=>zaa (zdS (d.1,d.2.1,d.2.2)) fun x_3=>zab ((x.length:Int)==0) (some 6) (zaa (zab (decide ((x.length:Int)>1)) (zaa (zgV (d.1,d.2.1)) fun x_4=>zab (d.2.2 !=x_4) (some (decide (x_2.1<(x.length:Int)))) (some false)) (some false)) fun x_4=>zab x_4 (some 5) (zaa (zab (decide ((x.length:Int)>1)) (zab (decide ((x_3.length:Int)>0)) (some true) (zaa (zbU (x_3,d.1,d.2.1)) fun x=>some x)) (zaa (zbU (x_3,d.1,d.2.1)) fun x=>some x)) fun x=>zab x (some 7) (some 0)))
def zeA:List Part×List UInt8×List UInt8->Option Int:=zah zem
theorem zjm(d:List Part×List UInt8×List UInt8):zeA d=zem d:=congrFun (zad zem) d
def ziP:TE:=⟨64,[.lst (.nm .Part),.str,.str],[],(.int .i64),[],zeA⟩
theorem ztJ(d:List Part×List UInt8×List UInt8):zai [zhc,zb3,zdW,zhb,zf0,zbM] zLt c64 [.t 6] [.lst (.nm .Part),.str,.str] [] (.int .i64) [] d=zeA d:=Eq.trans (b:=zem d) (by kernel_rfl) (zjm d).symm
def zdG(d:List Part):Option CFault:=zaa (zlB ((d.length:Int),1,4)) fun x=>zab (!x) (some {pos:=0,type:=[],field:=[],code:=8:CFault}) (zaa (zam (fun(s:Int×Int×List UInt8×List UInt8×Int)=>zab (decide (s.1<(d.length:Int))) (gd (decide (0<=s.1)) (zaa d[s.1.toNat]? fun x=>zaa (zd6 x) fun x_1=>zab (!x_1) (gd (zaF (s.1+1)) (some (Sum.inr (Sum.inr {pos:=s.1+1,type:=[],field:=[],code:=1:CFault})))) (gd (decide (0<=0)&&decide (0<=s.1)&&decide (s.1<=(d.length:Int))) (zaa (zce (List.take (s.1.toNat-Int.toNat 0) (List.drop (Int.toNat 0) d),x)) fun x=>zab x (gd (zaF (s.1+1)) (some (Sum.inr (Sum.inr {pos:=s.1+1,type:=[],field:=[],code:=2:CFault})))) (gd (zaF (s.1+1)) (some (Sum.inl (s.1+1,s.2.1,s.2.2.1,s.2.2.2.1,s.2.2.2.2)))))))) (some (Sum.inr (Sum.inl (s.1,s.2.1,s.2.2.1,s.2.2.2.1,s.2.2.2.2))))) (0,0,[],[],0)) fun(x:Int×Int×List UInt8×List UInt8×Int⊕CFault)=>zau x (fun d_1=>zaa (zam (fun(s:Int×Int×List UInt8×List UInt8×Int)=>zab (decide (s.1<(d.length:Int))) (gd (decide (0<=s.1)) (zaa d[s.1.toNat]? fun x=>zaa (zam (fun(s_1:Int×Int×List UInt8×List UInt8×Int)=>zab (decide (s_1.1<(x.types.length:Int))) (gd (decide (0<=s_1.1)) (zaa x.types[s_1.1.toNat]? fun x=>zaa (zab (x.key !=[]) (zaa (zgV (d,x.name)) fun x_1=>some (x.key !=x_1)) (some false)) fun x_1=>zab x_1 (gd (zaF (s.1+1)) (some (Sum.inr (Sum.inr (Sum.inr (Sum.inr {pos:=s.1+1,type:=x.name,field:=[],code:=4:CFault})))))) (zaa (zie (d,x)) fun x_2=>zab (x_2 !=[]) (gd (zaF (s.1+1)) (some (Sum.inr (Sum.inr (Sum.inr (Sum.inr {pos:=s.1+1,type:=x.name,field:=x_2,code:=3:CFault})))))) (gd (zaF (s_1.1+1)) (some (Sum.inl (s_1.1+1,s_1.2.1,s_1.2.2.1,s_1.2.2.2.1,s_1.2.2.2.2))))))) (some (Sum.inr (Sum.inl (s_1.1,s_1.2.1,s_1.2.2.1,s_1.2.2.2.1,s_1.2.2.2.2))))) (0,s.2.1,s.2.2.1,s.2.2.2.1,s.2.2.2.2)) fun(x:Int×Int×List UInt8×List UInt8×Int⊕Int×Int×List UInt8×List UInt8×Int⊕Int×Int×List UInt8×List UInt8×Int⊕CFault)=>zau x (fun d=>gd (zaF (s.1+1)) (some (Sum.inl (s.1+1,d.2.1,d.2.2.1,d.2.2.2.1,d.2.2.2.2)))) fun r=>some r)) (some (Sum.inr (Sum.inl (s.1,s.2.1,s.2.2.1,s.2.2.2.1,s.2.2.2.2))))) (0,d_1.2.1,d_1.2.2.1,d_1.2.2.2.1,d_1.2.2.2.2)) fun(x:Int×Int×List UInt8×List UInt8×Int⊕CFault)=>zau x (fun d_2=>zaa (zam (fun(s:Int×Int×List UInt8×List UInt8×Int)=>zab (decide (s.1<(d.length:Int))) (gd (decide (0<=s.1)) (zaa d[s.1.toNat]? fun x=>zaa (zam (fun(s_1:Int×Int×List UInt8×List UInt8×Int)=>zab (decide (s_1.1<(x.types.length:Int))) (gd (decide (0<=s_1.1)) (zaa x.types[s_1.1.toNat]? fun x=>zaa (zam (fun(s_2:Int×Int×List UInt8×List UInt8×Int)=>zab (decide (s_2.1<(x.fields.length:Int))) (gd (decide (0<=s_2.1)) (zaa x.fields[s_2.1.toNat]? fun x_1=>zaa (zeA (d,x.name,x_1.name)) fun x_2=>zab (decide (x_2>0)) (gd (zaF (s.1+1)) (some (Sum.inr (Sum.inr (Sum.inr (Sum.inr (Sum.inr (Sum.inr {pos:=s.1+1,type:=x.name,field:=x_1.name,code:=x_2:CFault})))))))) (gd (zaF (s_2.1+1)) (some (Sum.inl (s_2.1+1,s_2.2.1,s_2.2.2.1,s_2.2.2.2.1,s_2.2.2.2.2)))))) (some (Sum.inr (Sum.inl (s_2.1,s_2.2.1,s_2.2.2.1,s_2.2.2.2.1,s_2.2.2.2.2))))) (0,s_1.2.1,s_1.2.2.1,s_1.2.2.2.1,s_1.2.2.2.2)) fun(x:Int×Int×List UInt8×List UInt8×Int⊕Int×Int×List UInt8×List UInt8×Int⊕Int×Int×List UInt8×List UInt8×Int⊕Int×Int×List UInt8×List UInt8×Int⊕Int×Int×List UInt8×List UInt8×Int⊕CFault)=>zau x (fun d=>gd (zaF (s_1.1+1)) (some (Sum.inl (s_1.1+1,d.2.1,d.2.2.1,d.2.2.2.1,d.2.2.2.2)))) fun r=>some r)) (some (Sum.inr (Sum.inl (s_1.1,s_1.2.1,s_1.2.2.1,s_1.2.2.2.1,s_1.2.2.2.2))))) (0,s.2.1,s.2.2.1,s.2.2.2.1,s.2.2.2.2)) fun(x:Int×Int×List UInt8×List UInt8×Int⊕Int×Int×List UInt8×List UInt8×Int⊕Int×Int×List UInt8×List UInt8×Int⊕CFault)=>zau x (fun d=>gd (zaF (s.1+1)) (some (Sum.inl (s.1+1,d.2.1,d.2.2.1,d.2.2.2.1,d.2.2.2.2)))) fun r=>some r)) (some (Sum.inr (Sum.inl (s.1,s.2.1,s.2.2.1,s.2.2.2.1,s.2.2.2.2))))) (0,d_2.2.1,d_2.2.2.1,d_2.2.2.2.1,d_2.2.2.2.2)) fun(x:Int×Int×List UInt8×List UInt8×Int⊕CFault)=>zau x (fun d=>some {pos:=0,type:=[],field:=[],code:=0:CFault}) fun r=>some r) fun r=>some r) fun r=>some r)
def zdK:List Part->Option CFault:=zah zdG
theorem zid(d:List Part):zdK d=zdG d:=congrFun (zad zdG) d
def zhQ:TE:=⟨30,[.lst (.nm .Part)],[],(.st .CFault),[],zdK⟩
theorem zrG(d:List Part):zai [zp3,zfb,zff,zbq,zhb,znU,ziP] zK7 c30 [.c 2 (some 4)] [.lst (.nm .Part)] [] (.st .CFault) [] d=zdK d:=Eq.trans (b:=zdG d) (by kernel_rfl) (zid d).symm
def zfB(d:Typ×Typ):Option Bool:=some (d.1.name==d.2.name)
def zfL:Typ×Typ->Option Bool:=zah zfB
theorem zj5(d:Typ×Typ):zfL d=zfB d:=congrFun (zad zfB) d
def zfQ:TE:=⟨66,[.st .Typ,.ep .Typ],[],(.bool),[],zfL⟩
theorem zvi(d:Typ×Typ):zai [] zLu c66 [.t 3] [.st .Typ,.ep .Typ] [] (.bool) [] d=zfL d:=Eq.trans (b:=zfB d) (by kernel_rfl) (zj5 d).symm
def zer(d:List Typ×Typ):Option Int:=zaa (zam (fun(s:Int)=>zab (decide (s<(d.1.length:Int))) (gd (decide (0<=s)) (zaa d.1[s.toNat]? fun x=>zaa (zfL (x,d.2)) fun x=>zab x (some (Sum.inr (Sum.inr s))) (gd (zaF (s+1)) (some (Sum.inl (s+1)))))) (some (Sum.inr (Sum.inl s)))) 0) fun(x:Int⊕Int)=>zau x (fun d=>some (-1)) fun r=>some r
def zeG:List Typ×Typ->Option Int:=zah zer
theorem zjr(d:List Typ×Typ):zeG d=zer d:=congrFun (zad zer) d
def ziU:TE:=⟨65,[.lst (.nm .Typ),.fn 66 [.ep .Typ]],[],(.int .i64),[],zeG⟩
theorem ztO(d:List Typ×Typ):zai [zfQ] zIf c65 [.t 4] [.lst (.nm .Typ),.fn 66 [.ep .Typ]] [] (.int .i64) [] d=zeG d:=Eq.trans (b:=zer d) (by kernel_rfl) (zjr d).symm
def zfC(d:Field):Option Bool:=some d.hidden
def zfM:Field->Option Bool:=zah zfC
theorem zj6(d:Field):zfM d=zfC d:=congrFun (zad zfC) d
def zc7:TE:=⟨70,[.st .Field],[],(.bool),[],zfM⟩
theorem zvj(d:Field):zai [] zLw c70 [.t 2] [.st .Field] [] (.bool) [] d=zfM d:=Eq.trans (b:=zfC d) (by kernel_rfl) (zj6 d).symm
def zes(d:List Field):Option Int:=zaa (zam (fun(s:Int)=>zab (decide (s<(d.length:Int))) (gd (decide (0<=s)) (zaa d[s.toNat]? fun x=>zaa (zfM x) fun x=>zab x (some (Sum.inr (Sum.inr s))) (gd (zaF (s+1)) (some (Sum.inl (s+1)))))) (some (Sum.inr (Sum.inl s)))) 0) fun(x:Int⊕Int)=>zau x (fun d=>some (-1)) fun r=>some r
def zeH:List Field->Option Int:=zah zes
theorem zjs(d:List Field):zeH d=zes d:=congrFun (zad zes) d
def ziV:TE:=⟨98,[.lst (.nm .Field),.fn 70 []],[],(.int .i64),[],zeH⟩
theorem ztP(d:List Field):zai [zc7] zxs c98 [.t 4] [.lst (.nm .Field),.fn 70 []] [] (.int .i64) [] d=zeH d:=Eq.trans (b:=zes d) (by kernel_rfl) (zjs d).symm
def zep(d:List Field):Option Bool:=zaa (zeH d) fun x=>some (decide (x>=0))
def zeE:List Field->Option Bool:=zah zep
theorem zjp(d:List Field):zeE d=zep d:=congrFun (zad zep) d
def ziS:TE:=⟨68,[.lst (.nm .Field),.fn 70 []],[],(.bool),[],zeE⟩
theorem ztM(d:List Field):zai [ziV,zc7] zzK c68 [.t 4] [.lst (.nm .Field),.fn 70 []] [] (.bool) [] d=zeE d:=Eq.trans (b:=zep d) (by kernel_rfl) (zjp d).symm
def zhV(d:List Part):Option Part:=zaa (zam (fun(s:Int×List UInt8×List Typ×List UInt8×List Typ)=>zab (decide (s.1<(d.length:Int))) (gd (decide (0<=s.1)) (zaa d[s.1.toNat]? fun x=>zaa (zam (fun(s:Int×List UInt8×List Typ×List UInt8×List Typ)=>zab (decide (s.1<(x.types.length:Int))) (gd (decide (0<=s.1)) (zaa x.types[s.1.toNat]? fun x=>zaa (zeG (s.2.2.2.2,x)) fun x_1=>zaa (zab (decide (x_1<0)) (zaa (zgV (d,x.name)) fun x_2=>gd (decide (List.length s.2.2.2.2+List.length [{name:=x.name,key:=x_2,fields:=[]:Typ}]<=LIM)) (some ((s.2.2.2.2.length:Int),s.2.1,s.2.2.1,s.2.2.2.1,s.2.2.2.2++[{name:=x.name,key:=x_2,fields:=[]:Typ}]))) (some (x_1,s.2.1,s.2.2.1,s.2.2.2.1,s.2.2.2.2))) fun(x_2:Int×List UInt8×List Typ×List UInt8×List Typ)=>gd (decide (0<=x_2.1)&&decide (x_2.1<(x_2.2.2.2.2.length:Int))) (zaa (zam (fun(s:Int×Nat×List UInt8×List Typ×List UInt8×List Typ)=>zab (decide (s.1<(x.fields.length:Int))) (gd (decide (0<=s.1)) (zaa x.fields[s.1.toNat]? fun x_3=>zaa s.2.2.2.2.2[s.2.1]? fun x_4=>zaa (zcb ((x_4.name,x_4.key),x_3.name,x_4.fields)) fun(x_5:(Field×Bool)×List Field)=>gd (decide (List.length x_5.2=List.length x_4.fields)) (zab x_5.1.2 (gd (zaF (s.1+1)) (some (Sum.inl (s.1+1,s.2.1,s.2.2.1,s.2.2.2.1,s.2.2.2.2.1,List.set s.2.2.2.2.2 s.2.1 {name:=x_4.name,key:=x_4.key,fields:=x_5.2:Typ})))) (zaa (zcl (d,x.name,x_3.name)) fun x_6=>zaa (zeE x_6) fun x_7=>zaa (zdS (d,x.name,x_3.name)) fun x=>zaa (zaV x) fun x=>zaa (List.set s.2.2.2.2.2 s.2.1 {name:=x_4.name,key:=x_4.key,fields:=x_5.2:Typ})[s.2.1]? fun x_8=>gd (decide (List.length x_8.fields+List.length [{name:=x_3.name,of:=x_3.of,list:=x_3.list,must:=x_3.must,far:=false,hidden:=x_7,shared:=false,needs:=x:Field}]<=LIM)) (gd (decide (s.2.1=s.2.1)) (gd (zaF (s.1+1)) (some (Sum.inl (s.1+1,s.2.1,s.2.2.1,s.2.2.2.1,s.2.2.2.2.1,List.set (List.set s.2.2.2.2.2 s.2.1 {name:=x_4.name,key:=x_4.key,fields:=x_5.2:Typ}) s.2.1 {name:=x_8.name,key:=x_8.key,fields:=x_8.fields++[{name:=x_3.name,of:=x_3.of,list:=x_3.list,must:=x_3.must,far:=false,hidden:=x_7,shared:=false,needs:=x:Field}]:Typ}))))))))) (some (Sum.inr (s.1,s.2.1,s.2.2.1,s.2.2.2.1,s.2.2.2.2.1,s.2.2.2.2.2)))) (0,x_2.1.toNat,x_2.2.1,x_2.2.2.1,x_2.2.2.2.1,x_2.2.2.2.2)) fun(x:Int×Nat×List UInt8×List Typ×List UInt8×List Typ)=>gd (zaF (s.1+1)) (some (Sum.inl (s.1+1,x.2.2.1,x.2.2.2.1,x.2.2.2.2.1,x.2.2.2.2.2)))))) (some (Sum.inr (s.1,s.2.1,s.2.2.1,s.2.2.2.1,s.2.2.2.2)))) (0,s.2.1,s.2.2.1,s.2.2.2.1,s.2.2.2.2)) fun(x:Int×List UInt8×List Typ×List UInt8×List Typ)=>gd (zaF (s.1+1)) (some (Sum.inl (s.1+1,x.2.1,x.2.2.1,x.2.2.2.1,x.2.2.2.2))))) (some (Sum.inr (s.1,s.2.1,s.2.2.1,s.2.2.2.1,s.2.2.2.2)))) (0,[],[],[97],[])) fun(x:Int×List UInt8×List Typ×List UInt8×List Typ)=>some {name:=x.2.2.2.1,types:=x.2.2.2.2:Part}
def zgq:List Part->Option Part:=zah zhV
theorem zmR(d:List Part):zgq d=zhV d:=congrFun (zad zhV) d
def znT:TE:=⟨31,[.lst (.nm .Part)],[],(.st .Part),[],zgq⟩
theorem zzx(d:List Part):zai [ziU,zfQ,zhb,zby,zfa,zb3,ziS,zc7,zdW,zbz] zK8 c31 [.c 2 (some 2)] [.lst (.nm .Part)] [] (.st .Part) [] d=zgq d:=Eq.trans (b:=zhV d) (by kernel_rfl) (zmR d).symm
def zeh(d:List Part):Option (Chart×CFault):=zaa (zdK d) fun x=>zab (decide (x.code>0)) (some ({all:={name:=[],types:=[]:Part},owners:=[]:Chart},x)) (zaa (zgq d) fun x=>zaa (zd6 x) fun x_1=>zab (!x_1) (some ({all:={name:=[],types:=[]:Part},owners:=[]:Chart},{pos:=0,type:=[],field:=[],code:=8:CFault})) (zaa (zam (fun(s:Int×List UInt8×List Typ×List Own×(Int×List UInt8×List UInt8×Int)×(List UInt8×List Typ)×List Own)=>zab (decide (s.1<(x.types.length:Int))) (gd (decide (0<=s.1)) (zaa x.types[s.1.toNat]? fun x=>zaa (zam (fun(s:Int×List UInt8×List Typ×List Own×(Int×List UInt8×List UInt8×Int)×(List UInt8×List Typ)×List Own)=>zab (decide (s.1<(x.fields.length:Int))) (gd (decide (0<=s.1)) (zaa x.fields[s.1.toNat]? fun x_2=>zaa (ze4 (d,x.name,x_2.name)) fun x_3=>gd (decide (List.length s.2.2.2.2.2.2+List.length [{type:=x.name,field:=x_2.name,parts:=x_3:Own}]<=LIM)) (gd (zaF (s.1+1)) (some (Sum.inl (s.1+1,s.2.1,s.2.2.1,s.2.2.2.1,(s.2.2.2.2.1.1,s.2.2.2.2.1.2.1,s.2.2.2.2.1.2.2.1,s.2.2.2.2.1.2.2.2),(s.2.2.2.2.2.1.1,s.2.2.2.2.2.1.2),s.2.2.2.2.2.2++[{type:=x.name,field:=x_2.name,parts:=x_3:Own}])))))) (some (Sum.inr (s.1,s.2.1,s.2.2.1,s.2.2.2.1,(s.2.2.2.2.1.1,s.2.2.2.2.1.2.1,s.2.2.2.2.1.2.2.1,s.2.2.2.2.1.2.2.2),(s.2.2.2.2.2.1.1,s.2.2.2.2.2.1.2),s.2.2.2.2.2.2)))) (0,s.2.1,s.2.2.1,s.2.2.2.1,(s.2.2.2.2.1.1,s.2.2.2.2.1.2.1,s.2.2.2.2.1.2.2.1,s.2.2.2.2.1.2.2.2),(s.2.2.2.2.2.1.1,s.2.2.2.2.2.1.2),s.2.2.2.2.2.2)) fun(x:Int×List UInt8×List Typ×List Own×(Int×List UInt8×List UInt8×Int)×(List UInt8×List Typ)×List Own)=>gd (zaF (s.1+1)) (some (Sum.inl (s.1+1,x.2.1,x.2.2.1,x.2.2.2.1,(x.2.2.2.2.1.1,x.2.2.2.2.1.2.1,x.2.2.2.2.1.2.2.1,x.2.2.2.2.1.2.2.2),(x.2.2.2.2.2.1.1,x.2.2.2.2.2.1.2),x.2.2.2.2.2.2))))) (some (Sum.inr (s.1,s.2.1,s.2.2.1,s.2.2.2.1,(s.2.2.2.2.1.1,s.2.2.2.2.1.2.1,s.2.2.2.2.1.2.2.1,s.2.2.2.2.1.2.2.2),(s.2.2.2.2.2.1.1,s.2.2.2.2.2.1.2),s.2.2.2.2.2.2)))) (0,[],[],[],(0,[],[],0),(x.name,x.types),[])) fun(x:Int×List UInt8×List Typ×List Own×(Int×List UInt8×List UInt8×Int)×(List UInt8×List Typ)×List Own)=>some ({all:={name:=x.2.2.2.2.2.1.1,types:=x.2.2.2.2.2.1.2:Part},owners:=x.2.2.2.2.2.2:Chart},{pos:=0,type:=[],field:=[],code:=0:CFault})))
def zcn:List Part->Option (Chart×CFault):=zah zeh
theorem zjh(d:List Part):zcn d=zeh d:=congrFun (zad zeh) d
def zeN:TE:=⟨9,[.lst (.nm .Part)],[],(.tup [.st .Chart,.st .CFault]),[],zcn⟩
theorem ztE(d:List Part):zai [zhQ,znT,zfb,zhc] cy9 c9 [.c 2 (some 3),.c 3 (some 4)] [.lst (.nm .Part)] [] (.tup [.st .Chart,.st .CFault]) [] d=zcn d:=Eq.trans (b:=zeh d) (by kernel_rfl) (zjh d).symm
def zgD(d:List Part):Option (Fleet×Bool):=zaa (zcn d) fun(x:Chart×CFault)=>some ({parts:=d,chart:={all:={name:=x.1.all.name,types:=x.1.all.types:Part},owners:=x.1.owners:Chart}:Fleet},x.2.code==0)
def zgT:List Part->Option (Fleet×Bool):=zah zgD
theorem zlA(d:List Part):zgT d=zgD d:=congrFun (zad zgD) d
def zl6:TE:=⟨80,[.lst (.nm .Part)],[],(.tup [.st .Fleet,.bool]),[],zgT⟩
theorem zw0(d:List Part):zai [zeN] zLE c80 [.c 2 (some 4),.t 3] [.lst (.nm .Part)] [] (.tup [.st .Fleet,.bool]) [] d=zgT d:=Eq.trans (b:=zgD d) (by kernel_rfl) (zlA d).symm
def zjO(d:List (List UInt8)×List UInt8):Option (List (List UInt8)):=zaa (zaJ d.1) fun x=>gd (decide (List.length x+List.length [d.2]<=LIM)) (some (x++[d.2]))
def zj3:List (List UInt8)×List UInt8->Option (List (List UInt8)):=zah zjO
theorem zoD(d:List (List UInt8)×List UInt8):zj3 d=zjO d:=congrFun (zad zjO) d
def zp2:TE:=⟨108,[.lst .str,.str],[],(.lst .str),[],zj3⟩
theorem zBV(d:List (List UInt8)×List UInt8):zai [za4] zGr zKf [.t 4] [.lst .str,.str] [] (.lst .str) [] d=zj3 d:=Eq.trans (b:=zjO d) (by kernel_rfl) (zoD d).symm
def zcW(d:Fleet×Int×List UInt8):Option Bool:=gd (decide (0<=d.2.1)) (zaa d.1.parts[d.2.1.toNat]? fun x=>zaa (zaQ (x,d.2.2)) fun(x:Typ×Bool)=>some (x.1.key !=[]))
def zcc:Fleet×Int×List UInt8->Option Bool:=zah zcW
theorem zhw(d:Fleet×Int×List UInt8):zcc d=zcW d:=congrFun (zad zcW) d
def zc6:TE:=⟨142,[.st .Fleet,.int .i64,.str],[],(.bool),[],zcc⟩
theorem zrd(d:Fleet×Int×List UInt8):zai [zaL] zGT zKH [.t 6] [.st .Fleet,.int .i64,.str] [] (.bool) [] d=zcc d:=Eq.trans (b:=zcW d) (by kernel_rfl) (zhw d).symm
def zdF(d:Fleet×List UInt8×List UInt8):Option Int:=zaa (zam (fun(s:Int)=>zab (decide (s<(d.1.parts.length:Int))) (gd (decide (0<=s)) (zaa d.1.parts[s.toNat]? fun x=>zaa (zaY (x,d.2.1,d.2.2)) fun(x:Field×Bool)=>zaa (zab x.2 (zab (!x.1.far) (zab (d.2.1==[113,117,101,114,121]) (some true) (zaa (zcc (d.1,s,d.2.1)) fun x=>some x)) (some false)) (some false)) fun x=>zab x (some (Sum.inr (Sum.inr s))) (gd (zaF (s+1)) (some (Sum.inl (s+1)))))) (some (Sum.inr (Sum.inl s)))) 0) fun(x:Int⊕Int)=>zau x (fun d=>some (-1)) fun r=>some r
def zcL:Fleet×List UInt8×List UInt8->Option Int:=zah zdF
theorem zib(d:Fleet×List UInt8×List UInt8):zcL d=zdF d:=congrFun (zad zdF) d
def zdM:TE:=⟨140,[.st .Fleet,.str,.str],[],(.int .i64),[],zcL⟩
theorem zrF(d:Fleet×List UInt8×List UInt8):zai [zaD,zc6] zGR zKF [.t 6] [.st .Fleet,.str,.str] [] (.int .i64) [] d=zcL d:=Eq.trans (b:=zdF d) (by kernel_rfl) (zib d).symm
def zcs(d:Fleet×Int×List UInt8×List UInt8):Option Bool:=gd (decide (0<=d.2.1)) (zaa d.1.parts[d.2.1.toNat]? fun x=>zaa (zaY (x,d.2.2.1,d.2.2.2)) fun(x:Field×Bool)=>zaa (zab x.2 (zab (!x.1.far) (zaa (zaZ {name:=x.1.name,of:=x.1.of,list:=x.1.list,must:=x.1.must,far:=x.1.far,hidden:=x.1.hidden,shared:=x.1.shared,needs:=x.1.needs:Field}) fun x=>some !x) (some false)) (some false)) fun x=>some x)
def zbT:Fleet×Int×List UInt8×List UInt8->Option Bool:=zah zcs
theorem zgU(d:Fleet×Int×List UInt8×List UInt8):zbT d=zcs d:=congrFun (zad zcs) d
def zcH:TE:=⟨141,[.st .Fleet,.int .i64,.str,.str],[],(.bool),[],zbT⟩
theorem zpk(d:Fleet×Int×List UInt8×List UInt8):zai [zaD,zaK] zGS zKG [.t 8] [.st .Fleet,.int .i64,.str,.str] [] (.bool) [] d=zbT d:=Eq.trans (b:=zcs d) (by kernel_rfl) (zgU d).symm
def zcY(d:List UInt8×Fleet×Int×List UInt8):Option Bool:=zaa (zaa (zbT (d.2.1,d.2.2.1,d.2.2.2,d.1)) fun x=>zab (!x) (zaa (zcL (d.2.1,d.2.2.2,d.1)) fun x=>some (x== -1)) (some false)) fun x=>some x
def zc3:List UInt8×Fleet×Int×List UInt8->Option Bool:=zah zcY
theorem zhy(d:List UInt8×Fleet×Int×List UInt8):zc3 d=zcY d:=congrFun (zad zcY) d
def zbN:TE:=⟨143,[.str,.ep .Fleet,.ip [.int .i64],.ip [.str]],[],(.bool),[],zc3⟩
theorem zrf(d:List UInt8×Fleet×Int×List UInt8):zai [zcH,zdM] zGU zKI [.t 5] [.str,.ep .Fleet,.ip [.int .i64],.ip [.str]] [] (.bool) [] d=zc3 d:=Eq.trans (b:=zcY d) (by kernel_rfl) (zhy d).symm
def zcy(d:List (List UInt8)×Fleet×Int×List UInt8):Option Int:=zaa (zam (fun(s:Int)=>zab (decide (s<(d.1.length:Int))) (gd (decide (0<=s)) (zaa d.1[s.toNat]? fun x=>zaa (zc3 (x,d.2.1,d.2.2.1,d.2.2.2)) fun x=>zab x (some (Sum.inr (Sum.inr s))) (gd (zaF (s+1)) (some (Sum.inl (s+1)))))) (some (Sum.inr (Sum.inl s)))) 0) fun(x:Int⊕Int)=>zau x (fun d=>some (-1)) fun r=>some r
def zcF:List (List UInt8)×Fleet×Int×List UInt8->Option Int:=zah zcy
theorem zg2(d:List (List UInt8)×Fleet×Int×List UInt8):zcF d=zcy d:=congrFun (zad zcy) d
def zf4:TE:=⟨124,[.lst .str,.fn 143 [.ep .Fleet,.ip [.int .i64],.ip [.str]]],[],(.int .i64),[],zcF⟩
theorem zpr(d:List (List UInt8)×Fleet×Int×List UInt8):zai [zbN] zyu zId [.t 4] [.lst .str,.fn 143 [.ep .Fleet,.ip [.int .i64],.ip [.str]]] [] (.int .i64) [] d=zcF d:=Eq.trans (b:=zcy d) (by kernel_rfl) (zg2 d).symm
def zcv(d:List (List UInt8)×Fleet×Int×List UInt8):Option Bool:=zaa (zcF (d.1,d.2.1,d.2.2.1,d.2.2.2)) fun x=>some (decide (x>=0))
def zcC:List (List UInt8)×Fleet×Int×List UInt8->Option Bool:=zah zcv
theorem zgZ(d:List (List UInt8)×Fleet×Int×List UInt8):zcC d=zcv d:=congrFun (zad zcv) d
def zf1:TE:=⟨97,[.lst .str,.fn 143 [.ep .Fleet,.ip [.int .i64],.ip [.str]]],[],(.bool),[],zcC⟩
theorem zpn(d:List (List UInt8)×Fleet×Int×List UInt8):zai [zf4,zbN] zFX c97 [.t 4] [.lst .str,.fn 143 [.ep .Fleet,.ip [.int .i64],.ip [.str]]] [] (.bool) [] d=zcC d:=Eq.trans (b:=zcv d) (by kernel_rfl) (zgZ d).symm
def zen(d:Fleet×Int×List UInt8×List UInt8):Option Int:=zaa (zcL (d.1,d.2.2.1,d.2.2.2)) fun x=>zab (d.2.2.1==[113,117,101,114,121]) (some x) (zaa (zbT (d.1,d.2.1,d.2.2.1,d.2.2.2)) fun x_1=>zab x_1 (some d.2.1) (zaa (zab (x== -1) (some true) (zaa (zcc (d.1,d.2.1,d.2.2.1)) fun x=>some !x)) fun x_2=>zab x_2 (some (-1)) (gd (decide (0<=x)) (zaa d.1.parts[x.toNat]? fun x_3=>zaa (zaY (x_3,d.2.2.1,d.2.2.2)) fun(x_4:Field×Bool)=>zaa (zcC (x_4.1.needs,d.1,d.2.1,d.2.2.1)) fun x_5=>zab x_5 (some (-1)) (some x)))))
def zeB:Fleet×Int×List UInt8×List UInt8->Option Int:=zah zen
theorem zjn(d:Fleet×Int×List UInt8×List UInt8):zeB d=zen d:=congrFun (zad zen) d
def ziQ:TE:=⟨109,[.st .Fleet,.int .i64,.str,.str],[],(.int .i64),[],zeB⟩
theorem ztK(d:Fleet×Int×List UInt8×List UInt8):zai [zdM,zcH,zc6,zaD,zf1,zbN] zGs zKg [.t 8] [.st .Fleet,.int .i64,.str,.str] [] (.int .i64) [] d=zeB d:=Eq.trans (b:=zen d) (by kernel_rfl) (zjn d).symm
def zaz(d:List Stt×Stt):Option Int:=zaa (zam (fun(s:Int)=>zab (decide (s<(d.1.length:Int))) (gd (decide (0<=s)) (zaa d.1[s.toNat]? fun x=>zab (d.2.part==x.part&&(d.2.type==x.type&&true)) (some (Sum.inr (Sum.inr s))) (gd (zaF (s+1)) (some (Sum.inl (s+1)))))) (some (Sum.inr (Sum.inl s)))) 0) fun(x:Int⊕Int)=>zau x (fun d=>some (-1)) fun r=>some r
def zaA:List Stt×Stt->Option Int:=zah zaz
theorem zb1(d:List Stt×Stt):zaA d=zaz d:=congrFun (zad zaz) d
def zbh:TE:=⟨144,[.lst (.nm .Stt),.st .Stt],[],(.int .i64),[],zaA⟩
theorem zfX(d:List Stt×Stt):zai [] zGV zKJ [.t 4] [.lst (.nm .Stt),.st .Stt] [] (.int .i64) [] d=zaA d:=Eq.trans (b:=zaz d) (by kernel_rfl) (zb1 d).symm
def zar(d:List Stt×Stt):Option Bool:=zaa (zaA (d.1,d.2)) fun x=>some (decide (x>=0))
def zat:List Stt×Stt->Option Bool:=zah zar
theorem zbC(d:List Stt×Stt):zat d=zar d:=congrFun (zad zar) d
def za2:TE:=⟨111,[.lst (.nm .Stt),.st .Stt],[],(.bool),[],zat⟩
theorem zeW(d:List Stt×Stt):zai [zbh] zGu zKi [.t 4] [.lst (.nm .Stt),.st .Stt] [] (.bool) [] d=zat d:=Eq.trans (b:=zar d) (by kernel_rfl) (zbC d).symm
def zcX(d:Fleet):Option (List Stt×List (List UInt8)×Bool):=zaa (zam (fun(s:List (List UInt8)×Bool×Int×List Stt×List (List (List UInt8)))=>zab (decide (s.2.2.1<(s.2.2.2.1.length:Int))) (gd (decide (0<=s.2.2.1)&&decide (s.2.2.1<(s.2.2.2.1.length:Int))) (zaa s.2.2.2.1[s.2.2.1.toNat]? fun x=>zaa (zaQ ({name:=d.chart.all.name,types:=d.chart.all.types:Part},x.type)) fun(x_1:Typ×Bool)=>zaa (zam (fun(s_1:List (List UInt8)×Bool×Int×List Stt×List (List (List UInt8)))=>zab (decide (s_1.2.2.1<(x_1.1.fields.length:Int))) (gd (decide (0<=s_1.2.2.1)) (zaa x_1.1.fields[s_1.2.2.1.toNat]? fun x_2=>zab x_2.hidden (gd (zaF (s_1.2.2.1+1)) (some (Sum.inl (s_1.1,s_1.2.1,s_1.2.2.1+1,s_1.2.2.2.1,s_1.2.2.2.2)))) (gd (decide (0<=s.2.2.1)&&decide (s.2.2.1<(s_1.2.2.2.2.length:Int))) (zaa s_1.2.2.2.2[s.2.2.1.toNat]? fun x_3=>zaa (zj3 (x_3,x_2.name)) fun x_4=>gd (decide (0<=s.2.2.1)&&decide (s.2.2.1<(s_1.2.2.2.1.length:Int))) (zaa s_1.2.2.2.1[s.2.2.1.toNat]? fun x_5=>zaa (zeB (d,x_5.part,x.type,x_2.name)) fun x=>zaa (zaa (zab (x== -1) (some s_1.2.1) (some false)) fun x_6=>zaa (zab x_6 (some (x_4,false,s_1.2.2.2.1,s_1.2.2.2.2)) (zaa (zab (x != -1) (zaa (zbm x_2) fun x_7=>zab (!x_7) (zaa (zat (s_1.2.2.2.1,{part:=x,type:=x_2.of:Stt})) fun x=>some !x) (some false)) (some false)) fun x_7=>zaa (zab x_7 (gd (decide (List.length s_1.2.2.2.1+List.length [{part:=x,type:=x_2.of:Stt}]<=LIM)) (gd (decide (List.length s_1.2.2.2.2+List.length [x_4]<=LIM)) (some (s_1.2.2.2.1++[{part:=x,type:=x_2.of:Stt}],s_1.2.2.2.2++[x_4])))) (some (s_1.2.2.2.1,s_1.2.2.2.2))) fun(x:List Stt×List (List (List UInt8)))=>some (s_1.1,s_1.2.1,x.1,x.2))) fun(x:List (List UInt8)×Bool×List Stt×List (List (List UInt8)))=>some (x.1,x.2.1,x.2.2.1,x.2.2.2)) fun(x:List (List UInt8)×Bool×List Stt×List (List (List UInt8)))=>gd (zaF (s_1.2.2.1+1)) (some (Sum.inl (x.1,x.2.1,s_1.2.2.1+1,x.2.2.1,x.2.2.2)))))))) (some (Sum.inr (s_1.1,s_1.2.1,s_1.2.2.1,s_1.2.2.2.1,s_1.2.2.2.2)))) (s.1,s.2.1,0,s.2.2.2.1,s.2.2.2.2)) fun(x:List (List UInt8)×Bool×Int×List Stt×List (List (List UInt8)))=>gd (zaF (s.2.2.1+1)) (some (Sum.inl (x.1,x.2.1,s.2.2.1+1,x.2.2.2.1,x.2.2.2.2))))) (some (Sum.inr (s.1,s.2.1,s.2.2.1,s.2.2.2.1,s.2.2.2.2)))) ([],true,0,[{part:=0,type:=[113,117,101,114,121]:Stt}],[[]])) fun(x:List (List UInt8)×Bool×Int×List Stt×List (List (List UInt8)))=>some (x.2.2.2.1,x.1,x.2.1)
def zc2:Fleet->Option (List Stt×List (List UInt8)×Bool):=zah zcX
theorem zhx(d:Fleet):zc2 d=zcX d:=congrFun (zad zcX) d
def zha:TE:=⟨81,[.st .Fleet],[],(.tup [.lst (.nm .Stt),.lst .str,.bool]),[],zc2⟩
theorem zre(d:Fleet):zai [zaL,zp2,ziQ,zbo,za2] zLF c81 [.t 2,.t 3,.t 4] [.st .Fleet] [] (.tup [.lst (.nm .Stt),.lst .str,.bool]) [] d=zc2 d:=Eq.trans (b:=zcX d) (by kernel_rfl) (zhx d).symm
def zgC(d:List Part):Option (Bool×List (List UInt8)):=zaa (zgT d) fun(x:Fleet×Bool)=>zab (!x.2) (some (false,[])) (zaa (zc2 {parts:=x.1.parts,chart:={all:={name:=x.1.chart.all.name,types:=x.1.chart.all.types:Part},owners:=x.1.chart.owners:Chart}:Fleet}) fun(x:List Stt×List (List UInt8)×Bool)=>some (x.2.2,x.2.1))
def zgQ:List Part->Option (Bool×List (List UInt8)):=zah zgC
theorem zlz(d:List Part):zgQ d=zgC d:=congrFun (zad zgC) d
def zl5:TE:=⟨41,[.lst (.nm .Part)],[],(.tup [.bool,.lst .str]),[],zgQ⟩
theorem zwZ(d:List Part):zai [zl6,zha] zLg c41 [.t 2,.t 3] [.lst (.nm .Part)] [] (.tup [.bool,.lst .str]) [] d=zgQ d:=Eq.trans (b:=zgC d) (by kernel_rfl) (zlz d).symm
def zdB(d:Part×Part):Option (List (List UInt8)):=zaa (zaa (zd6 d.1) fun x=>zab (!x) (some true) (zaa (zd6 d.2) fun x=>some !x)) fun x=>zab x (some []) (zaa (zam (fun(s:Int×List (List UInt8))=>zab (decide (s.1<(d.1.types.length:Int))) (gd (decide (0<=s.1)) (zaa d.1.types[s.1.toNat]? fun x=>zaa (zam (fun(s:Int×List (List UInt8))=>zab (decide (s.1<(x.fields.length:Int))) (gd (decide (0<=s.1)) (zaa x.fields[s.1.toNat]? fun x_1=>zaa (zaY (d.2,x.name,x_1.name)) fun(x_2:Field×Bool)=>zaa (zab (!x_1.hidden) (zab (!x_2.2) (some true) (zab x_2.1.hidden (some true) (zab (x_2.1.of !=x_1.of) (some true) (some (x_2.1.list !=x_1.list))))) (some false)) fun x_3=>zaa (zab x_3 (gd (decide (List.length x.name+List.length [46]<=BIG)) (gd (decide (List.length (x.name++[46])+List.length x_1.name<=BIG)) (gd (decide (List.length s.2+List.length [x.name++[46]++x_1.name]<=LIM)) (some (s.2++[x.name++[46]++x_1.name]))))) (some s.2)) fun x=>gd (zaF (s.1+1)) (some (Sum.inl (s.1+1,x))))) (some (Sum.inr (s.1,s.2)))) (0,s.2)) fun(x:Int×List (List UInt8))=>gd (zaF (s.1+1)) (some (Sum.inl (s.1+1,x.2))))) (some (Sum.inr (s.1,s.2)))) (0,[])) fun(x:Int×List (List UInt8))=>some x.2)
def zcK:Part×Part->Option (List (List UInt8)):=zah zdB
theorem zh7(d:Part×Part):zcK d=zdB d:=congrFun (zad zdB) d
def zhN:TE:=⟨42,[.st .Part,.st .Part],[],(.lst .str),[],zcK⟩
theorem zrB(d:Part×Part):zai [zfb,zaD] zLh c42 [.t 4] [.st .Part,.st .Part] [] (.lst .str) [] d=zcK d:=Eq.trans (b:=zdB d) (by kernel_rfl) (zh7 d).symm
def zei(d:List Part×List Part):Option Bool:=zaa (zcn d.1) fun(x:Chart×CFault)=>zaa (zcn d.2) fun(x_1:Chart×CFault)=>zaa (zgQ d.2) fun(x_2:Bool×List (List UInt8))=>zaa (zab (x.2.code==0) (zab (x_1.2.code==0) (zab x_2.1 (zaa (zcK ({name:=x.1.all.name,types:=x.1.all.types:Part},{name:=x_1.1.all.name,types:=x_1.1.all.types:Part})) fun x=>some ((x.length:Int)==0)) (some false)) (some false)) (some false)) fun x=>some x
def zdk:List Part×List Part->Option Bool:=zah zei
theorem zji(d:List Part×List Part):zdk d=zei d:=congrFun (zad zei) d
def ziN:TE:=⟨20,[.lst (.nm .Part),.lst (.nm .Part)],[],(.bool),[],zdk⟩
theorem ztF(d:List Part×List Part):zai [zeN,zl5,zhN] zK4 c20 [.t 4] [.lst (.nm .Part),.lst (.nm .Part)] [] (.bool) [] d=zdk d:=Eq.trans (b:=zei d) (by kernel_rfl) (zji d).symm
def zeu(d:List (List UInt8)×List (List UInt8)):Option Bool:=zab ((d.1.length:Int) !=(d.2.length:Int)) (some false) (zaa (zam (fun(s:Int)=>zab (decide (s<(d.1.length:Int))) (gd (decide (0<=s)) (zaa d.1[s.toNat]? fun x=>gd (decide (0<=s)) (zaa d.2[s.toNat]? fun x_1=>zab (x !=x_1) (some (Sum.inr (Sum.inr false))) (gd (zaF (s+1)) (some (Sum.inl (s+1))))))) (some (Sum.inr (Sum.inl s)))) 0) fun(x:Int⊕Bool)=>zau x (fun d=>some true) fun r=>some r)
def zeK:List (List UInt8)×List (List UInt8)->Option Bool:=zah zeu
theorem zju(d:List (List UInt8)×List (List UInt8)):zeK d=zeu d:=congrFun (zad zeu) d
def ziX:TE:=⟨14,[.lst .str,.lst .str],[],(.bool),[],zeK⟩
theorem ztR(d:List (List UInt8)×List (List UInt8)):zai [] zK1 c14 [.t 4] [.lst .str,.lst .str] [] (.bool) [] d=zeK d:=Eq.trans (b:=zeu d) (by kernel_rfl) (zju d).symm
def zgG(d:Field×Field):Option Bool:=zab (d.1.name !=d.2.name) (some false) (zab (d.1.of !=d.2.of) (some false) (zab (d.1.list !=d.2.list) (some false) (zab (d.1.must !=d.2.must) (some false) (zab (d.1.far !=d.2.far) (some false) (zab (d.1.hidden !=d.2.hidden) (some false) (zab (d.1.shared !=d.2.shared) (some false) (zaa (zeK (d.1.needs,d.2.needs)) fun x=>zab (!x) (some false) (some true))))))))
def ze5:Field×Field->Option Bool:=zah zgG
theorem zlF(d:Field×Field):ze5 d=zgG d:=congrFun (zad zgG) d
def zl9:TE:=⟨153,[.st .Field,.st .Field],[],(.bool),[],ze5⟩
theorem zw3(d:Field×Field):zai [ziX] zG3 zKR [.t 4] [.st .Field,.st .Field] [] (.bool) [] d=ze5 d:=Eq.trans (b:=zgG d) (by kernel_rfl) (zlF d).symm
def zfE(d:List Field×List Field):Option Bool:=zab ((d.1.length:Int) !=(d.2.length:Int)) (some false) (zaa (zam (fun(s:Int)=>zab (decide (s<(d.1.length:Int))) (gd (decide (0<=s)) (zaa d.1[s.toNat]? fun x=>gd (decide (0<=s)) (zaa d.2[s.toNat]? fun x_1=>zaa (ze5 (x,x_1)) fun x=>zab (!x) (some (Sum.inr (Sum.inr false))) (gd (zaF (s+1)) (some (Sum.inl (s+1))))))) (some (Sum.inr (Sum.inl s)))) 0) fun(x:Int⊕Bool)=>zau x (fun d=>some true) fun r=>some r)
def zfN:List Field×List Field->Option Bool:=zah zfE
theorem zkf(d:List Field×List Field):zfN d=zfE d:=congrFun (zad zfE) d
def zkl:TE:=⟨137,[.lst (.nm .Field),.lst (.nm .Field)],[],(.bool),[],zfN⟩
theorem zvl(d:List Field×List Field):zai [zl9] zGO zKC [.t 4] [.lst (.nm .Field),.lst (.nm .Field)] [] (.bool) [] d=zfN d:=Eq.trans (b:=zfE d) (by kernel_rfl) (zkf d).symm
def zh1(d:Typ×Typ):Option Bool:=zab (d.1.name !=d.2.name) (some false) (zab (d.1.key !=d.2.key) (some false) (zaa (zfN (d.1.fields,d.2.fields)) fun x=>zab (!x) (some false) (some true)))
def zgt:Typ×Typ->Option Bool:=zah zh1
theorem zm1(d:Typ×Typ):zgt d=zh1 d:=congrFun (zad zh1) d
def znW:TE:=⟨106,[.st .Typ,.st .Typ],[],(.bool),[],zgt⟩
theorem zzD(d:Typ×Typ):zai [zkl] zGp zKd [.t 4] [.st .Typ,.st .Typ] [] (.bool) [] d=zgt d:=Eq.trans (b:=zh1 d) (by kernel_rfl) (zm1 d).symm
def zgI(d:List Typ×List Typ):Option Bool:=zab ((d.1.length:Int) !=(d.2.length:Int)) (some false) (zaa (zam (fun(s:Int)=>zab (decide (s<(d.1.length:Int))) (gd (decide (0<=s)) (zaa d.1[s.toNat]? fun x=>gd (decide (0<=s)) (zaa d.2[s.toNat]? fun x_1=>zaa (zgt (x,x_1)) fun x=>zab (!x) (some (Sum.inr (Sum.inr false))) (gd (zaF (s+1)) (some (Sum.inl (s+1))))))) (some (Sum.inr (Sum.inl s)))) 0) fun(x:Int⊕Bool)=>zau x (fun d=>some true) fun r=>some r)
def zg4:List Typ×List Typ->Option Bool:=zah zgI
theorem zlH(d:List Typ×List Typ):zg4 d=zgI d:=congrFun (zad zgI) d
def zmb:TE:=⟨77,[.lst (.nm .Typ),.lst (.nm .Typ)],[],(.bool),[],zg4⟩
theorem zw5(d:List Typ×List Typ):zai [znW] zLC c77 [.t 4] [.lst (.nm .Typ),.lst (.nm .Typ)] [] (.bool) [] d=zg4 d:=Eq.trans (b:=zgI d) (by kernel_rfl) (zlH d).symm
def zh0(d:Part×Part):Option Bool:=zab (d.1.name !=d.2.name) (some false) (zaa (zg4 (d.1.types,d.2.types)) fun x=>zab (!x) (some false) (some true))
def zgs:Part×Part->Option Bool:=zah zh0
theorem zm0(d:Part×Part):zgs d=zh0 d:=congrFun (zad zh0) d
def znV:TE:=⟨36,[.st .Part,.st .Part],[],(.bool),[],zgs⟩
theorem zzC(d:Part×Part):zai [zmb] zLd c36 [.t 4] [.st .Part,.st .Part] [] (.bool) [] d=zgs d:=Eq.trans (b:=zh0 d) (by kernel_rfl) (zm0 d).symm
def zgH(d:List Part×List Part):Option Bool:=zab ((d.1.length:Int) !=(d.2.length:Int)) (some false) (zaa (zam (fun(s:Int)=>zab (decide (s<(d.1.length:Int))) (gd (decide (0<=s)) (zaa d.1[s.toNat]? fun x=>gd (decide (0<=s)) (zaa d.2[s.toNat]? fun x_1=>zaa (zgs (x,x_1)) fun x=>zab (!x) (some (Sum.inr (Sum.inr false))) (gd (zaF (s+1)) (some (Sum.inl (s+1))))))) (some (Sum.inr (Sum.inl s)))) 0) fun(x:Int⊕Bool)=>zau x (fun d=>some true) fun r=>some r)
def ze6:List Part×List Part->Option Bool:=zah zgH
theorem zlG(d:List Part×List Part):ze6 d=zgH d:=congrFun (zad zgH) d
def zma:TE:=⟨15,[.lst (.nm .Part),.lst (.nm .Part)],[],(.bool),[],ze6⟩
theorem zw4(d:List Part×List Part):zai [znV] zK2 c15 [.t 4] [.lst (.nm .Part),.lst (.nm .Part)] [] (.bool) [] d=ze6 d:=Eq.trans (b:=zgH d) (by kernel_rfl) (zlG d).symm
def zbt(d:List Part×List Part):Option Bool:=zaa (ze8 (d.1,1048576)) fun x=>zab (decide (x<0)) (some true) (zaa (ze8 (d.2,x)) fun x=>zab (decide (x<0)) (some true) (zaa (zb4 d.1) fun x=>zaa (zb4 d.2) fun x_1=>zaa (ze3 (x,x_1)) fun x=>zaa (zb4 d.1) fun x_2=>zaa (zb4 d.2) fun x_3=>zaa (zdk (x_2,x_3)) fun x_4=>zab (x_4 !=x) (some false) (zaa (zb4 d.1) fun x=>zaa (ze6 (x_2,x)) fun x=>zab (!x) (some false) (zaa (zb4 d.2) fun x=>zaa (ze6 (x_3,x)) fun x=>zab (!x) (some false) (some true)))))
def zbw:List Part×List Part->Option Bool:=zah zbt
theorem zeJ(d:List Part×List Part):zbw d=zbt d:=congrFun (zad zbt) d
def zgg:TE:=⟨5,[.lst (.nm .Part),.lst (.nm .Part)],[],(.bool),[],zbw⟩
theorem zlv(d:List Part×List Part):zai [zmd,zmg,zl4,ziN,zma] cy5 c5 [.t 4] [.lst (.nm .Part),.lst (.nm .Part)] [] (.bool) [] d=zbw d:=Eq.trans (b:=zbt d) (by kernel_rfl) (zeJ d).symm
end
end Go.Fw
namespace Go.Fw
open Go Go.Proofs
set_option maxRecDepth 100000
set_option linter.unusedVariables false
theorem za5:Tryz.prog.follows .mixedOrders=true:=by kernel_rfl
theorem zJB:FnOk Tryz.prog 157 zKV 2 [.t 4]:=⟨⟨Tryz.f157,Tryz.func157,by kernel_rfl⟩,Tryz.call157,za5⟩
theorem zJv:FnOk Tryz.prog 151 zKP 2 [.t 4]:=⟨⟨Tryz.f151,Tryz.func151,by kernel_rfl⟩,Tryz.call151,za5⟩
theorem zJg:FnOk Tryz.prog 135 zKA 2 [.t 4]:=⟨⟨Tryz.f135,Tryz.func135,by kernel_rfl⟩,Tryz.call135,za5⟩
theorem zIR:FnOk Tryz.prog 104 zKb 2 [.t 4]:=⟨⟨Tryz.f104,Tryz.func104,by kernel_rfl⟩,Tryz.call104,za5⟩
theorem zMB:FnOk Tryz.prog 75 c75 2 [.t 4]:=⟨⟨Tryz.f75,Tryz.func75,by kernel_rfl⟩,Tryz.call75,za5⟩
theorem zMc:FnOk Tryz.prog 34 c34 2 [.t 4]:=⟨⟨Tryz.f34,Tryz.func34,by kernel_rfl⟩,Tryz.call34,za5⟩
theorem zL0:FnOk Tryz.prog 12 c12 2 [.t 4]:=⟨⟨Tryz.f12,Tryz.func12,by kernel_rfl⟩,Tryz.call12,za5⟩
theorem zJC:FnOk Tryz.prog 158 zKW 1 [.t 2]:=⟨⟨Tryz.f158,Tryz.func158,by kernel_rfl⟩,Tryz.call158,za5⟩
theorem zJw:FnOk Tryz.prog 152 zKQ 1 [.c 2 (some 8)]:=⟨⟨Tryz.f152,Tryz.func152,by kernel_rfl⟩,Tryz.call152,za5⟩
theorem zJh:FnOk Tryz.prog 136 zKB 1 [.t 2]:=⟨⟨Tryz.f136,Tryz.func136,by kernel_rfl⟩,Tryz.call136,za5⟩
theorem zIS:FnOk Tryz.prog 105 zKc 1 [.c 2 (some 3)]:=⟨⟨Tryz.f105,Tryz.func105,by kernel_rfl⟩,Tryz.call105,za5⟩
theorem zMC:FnOk Tryz.prog 76 c76 1 [.t 2]:=⟨⟨Tryz.f76,Tryz.func76,by kernel_rfl⟩,Tryz.call76,za5⟩
theorem zMd:FnOk Tryz.prog 35 c35 1 [.c 2 (some 2)]:=⟨⟨Tryz.f35,Tryz.func35,by kernel_rfl⟩,Tryz.call35,za5⟩
theorem zL1:FnOk Tryz.prog 13 c13 1 [.t 2]:=⟨⟨Tryz.f13,Tryz.func13,by kernel_rfl⟩,Tryz.call13,za5⟩
theorem zJq:FnOk Tryz.prog 146 zKK 3 [.t 6]:=⟨⟨Tryz.f146,Tryz.func146,by kernel_rfl⟩,Tryz.call146,za5⟩
theorem zI0:FnOk Tryz.prog 118 zKk 1 [.t 2]:=⟨⟨Tryz.f118,Tryz.func118,by kernel_rfl⟩,Tryz.call118,za5⟩
theorem zI1:FnOk Tryz.prog 119 zKl 1 [.t 2]:=⟨⟨Tryz.f119,Tryz.func119,by kernel_rfl⟩,Tryz.call119,za5⟩
theorem zMK:FnOk Tryz.prog 90 c90 1 [.t 2]:=⟨⟨Tryz.f90,Tryz.func90,by kernel_rfl⟩,Tryz.call90,za5⟩
theorem zMn:FnOk Tryz.prog 57 c57 2 [.t 4]:=⟨⟨Tryz.f57,Tryz.func57,by kernel_rfl⟩,Tryz.call57,za5⟩
theorem zMo:FnOk Tryz.prog 58 c58 2 [.t 4]:=⟨⟨Tryz.f58,Tryz.func58,by kernel_rfl⟩,Tryz.call58,za5⟩
theorem zI2:FnOk Tryz.prog 120 zKm 1 [.t 2]:=⟨⟨Tryz.f120,Tryz.func120,by kernel_rfl⟩,Tryz.call120,za5⟩
theorem zI3:FnOk Tryz.prog 121 zKn 2 [.t 4]:=⟨⟨Tryz.f121,Tryz.func121,by kernel_rfl⟩,Tryz.call121,za5⟩
theorem zML:FnOk Tryz.prog 91 c91 2 [.t 4]:=⟨⟨Tryz.f91,Tryz.func91,by kernel_rfl⟩,Tryz.call91,za5⟩
theorem zI4:FnOk Tryz.prog 122 zKo 1 [.t 2]:=⟨⟨Tryz.f122,Tryz.func122,by kernel_rfl⟩,Tryz.call122,za5⟩
theorem zMM:FnOk Tryz.prog 92 c92 1 [.t 2]:=⟨⟨Tryz.f92,Tryz.func92,by kernel_rfl⟩,Tryz.call92,za5⟩
theorem zMl:FnOk Tryz.prog 55 c55 1 [.c 2 (some 2)]:=⟨⟨Tryz.f55,Tryz.func55,by kernel_rfl⟩,Tryz.call55,za5⟩
theorem zMH:FnOk Tryz.prog 87 c87 2 [.t 4]:=⟨⟨Tryz.f87,Tryz.func87,by kernel_rfl⟩,Tryz.call87,za5⟩
theorem zL7:FnOk Tryz.prog 28 c28 3 [.c 6 (some 8),.t 7]:=⟨⟨Tryz.f28,Tryz.func28,by kernel_rfl⟩,Tryz.call28,za5⟩
theorem zMm:FnOk Tryz.prog 56 c56 3 [.t 6]:=⟨⟨Tryz.f56,Tryz.func56,by kernel_rfl⟩,Tryz.call56,za5⟩
theorem zIZ:FnOk Tryz.prog 117 zKj 2 [.t 4]:=⟨⟨Tryz.f117,Tryz.func117,by kernel_rfl⟩,Tryz.call117,za5⟩
theorem zMI:FnOk Tryz.prog 88 c88 4 [.t 8]:=⟨⟨Tryz.f88,Tryz.func88,by kernel_rfl⟩,Tryz.call88,za5⟩
theorem zMj:FnOk Tryz.prog 53 c53 1 [.c 2 (some 4)]:=⟨⟨Tryz.f53,Tryz.func53,by kernel_rfl⟩,Tryz.call53,za5⟩
theorem zMJ:FnOk Tryz.prog 89 c89 2 [.c 4 (some 3)]:=⟨⟨Tryz.f89,Tryz.func89,by kernel_rfl⟩,Tryz.call89,za5⟩
theorem zMk:FnOk Tryz.prog 54 c54 1 [.c 2 (some 2)]:=⟨⟨Tryz.f54,Tryz.func54,by kernel_rfl⟩,Tryz.call54,za5⟩
theorem zL6:FnOk Tryz.prog 27 c27 1 [.c 2 (some 3),.c 3 (some 4)]:=⟨⟨Tryz.f27,Tryz.func27,by kernel_rfl⟩,Tryz.call27,za5⟩
theorem zJy:FnOk Tryz.prog 154 zKS 3 [.t 6]:=⟨⟨Tryz.f154,Tryz.func154,by kernel_rfl⟩,Tryz.call154,za5⟩
theorem zJA:FnOk Tryz.prog 156 zKU 2 [.t 4]:=⟨⟨Tryz.f156,Tryz.func156,by kernel_rfl⟩,Tryz.call156,za5⟩
theorem zJz:FnOk Tryz.prog 155 zKT 3 [.t 6]:=⟨⟨Tryz.f155,Tryz.func155,by kernel_rfl⟩,Tryz.call155,za5⟩
theorem zJj:FnOk Tryz.prog 138 zKD 4 [.t 8]:=⟨⟨Tryz.f138,Tryz.func138,by kernel_rfl⟩,Tryz.call138,za5⟩
theorem zJk:FnOk Tryz.prog 139 zKE 2 [.t 4]:=⟨⟨Tryz.f139,Tryz.func139,by kernel_rfl⟩,Tryz.call139,za5⟩
theorem zIU:FnOk Tryz.prog 107 zKe 4 []:=⟨⟨Tryz.f107,Tryz.func107,by kernel_rfl⟩,Tryz.call107,za5⟩
theorem zME:FnOk Tryz.prog 79 c79 2 [.t 4]:=⟨⟨Tryz.f79,Tryz.func79,by kernel_rfl⟩,Tryz.call79,za5⟩
theorem zMf:FnOk Tryz.prog 39 c39 1 [.t 2,.t 3]:=⟨⟨Tryz.f39,Tryz.func39,by kernel_rfl⟩,Tryz.call39,za5⟩
theorem zMg:FnOk Tryz.prog 40 c40 2 [.t 4]:=⟨⟨Tryz.f40,Tryz.func40,by kernel_rfl⟩,Tryz.call40,za5⟩
theorem zL4:FnOk Tryz.prog 19 c19 2 [.t 4]:=⟨⟨Tryz.f19,Tryz.func19,by kernel_rfl⟩,Tryz.call19,za5⟩
theorem zMp:FnOk Tryz.prog 59 c59 3 [.t 6]:=⟨⟨Tryz.f59,Tryz.func59,by kernel_rfl⟩,Tryz.call59,za5⟩
theorem zI6:FnOk Tryz.prog 125 zKq 1 [.t 2]:=⟨⟨Tryz.f125,Tryz.func125,by kernel_rfl⟩,Tryz.call125,za5⟩
theorem zJr:FnOk Tryz.prog 147 zKL 2 [.t 4]:=⟨⟨Tryz.f147,Tryz.func147,by kernel_rfl⟩,Tryz.call147,za5⟩
theorem zI7:FnOk Tryz.prog 126 zKr 2 [.t 4]:=⟨⟨Tryz.f126,Tryz.func126,by kernel_rfl⟩,Tryz.call126,za5⟩
theorem zIO:FnOk Tryz.prog 101 zJ8 1 [.t 2]:=⟨⟨Tryz.f101,Tryz.func101,by kernel_rfl⟩,Tryz.call101,za5⟩
theorem zI5:FnOk Tryz.prog 123 zKp 2 [.t 3]:=⟨⟨Tryz.f123,Tryz.func123,by kernel_rfl⟩,Tryz.call123,za5⟩
theorem zLV:FnOk Tryz.prog 65 c65 2 [.t 4]:=⟨⟨Tryz.f65,Tryz.func65,by kernel_rfl⟩,Tryz.call65,za5⟩
theorem zMO:FnOk Tryz.prog 94 c94 2 [.c 4 (some 3),.t 5]:=⟨⟨Tryz.f94,Tryz.func94,by kernel_rfl⟩,Tryz.call94,za5⟩
theorem zIX:FnOk Tryz.prog 110 zKh 1 [.t 2]:=⟨⟨Tryz.f110,Tryz.func110,by kernel_rfl⟩,Tryz.call110,za5⟩
theorem zJs:FnOk Tryz.prog 148 zKM 1 [.t 2]:=⟨⟨Tryz.f148,Tryz.func148,by kernel_rfl⟩,Tryz.call148,za5⟩
theorem zE6:FnOk Tryz.prog 124 zId 2 [.t 4]:=⟨⟨Tryz.f124,Tryz.func124,by kernel_rfl⟩,Tryz.call124,za5⟩
theorem zJD:FnOk Tryz.prog 97 c97 2 [.t 4]:=⟨⟨Tryz.f97,Tryz.func97,by kernel_rfl⟩,Tryz.call97,za5⟩
theorem zJt:FnOk Tryz.prog 149 zKN 2 [.t 3]:=⟨⟨Tryz.f149,Tryz.func149,by kernel_rfl⟩,Tryz.call149,za5⟩
theorem zE7:FnOk Tryz.prog 98 c98 2 [.t 4]:=⟨⟨Tryz.f98,Tryz.func98,by kernel_rfl⟩,Tryz.call98,za5⟩
theorem zF5:FnOk Tryz.prog 68 c68 2 [.t 4]:=⟨⟨Tryz.f68,Tryz.func68,by kernel_rfl⟩,Tryz.call68,za5⟩
theorem zI9:FnOk Tryz.prog 128 zKt 1 [.t 2]:=⟨⟨Tryz.f128,Tryz.func128,by kernel_rfl⟩,Tryz.call128,za5⟩
theorem zJb:FnOk Tryz.prog 130 zKv 1 [.t 2]:=⟨⟨Tryz.f130,Tryz.func130,by kernel_rfl⟩,Tryz.call130,za5⟩
theorem zJa:FnOk Tryz.prog 129 zKu 1 [.t 2]:=⟨⟨Tryz.f129,Tryz.func129,by kernel_rfl⟩,Tryz.call129,za5⟩
theorem zI8:FnOk Tryz.prog 127 zKs 2 [.t 3]:=⟨⟨Tryz.f127,Tryz.func127,by kernel_rfl⟩,Tryz.call127,za5⟩
theorem zMR:FnOk Tryz.prog 99 c99 2 [.t 3]:=⟨⟨Tryz.f99,Tryz.func99,by kernel_rfl⟩,Tryz.call99,za5⟩
theorem zLW:FnOk Tryz.prog 67 c67 2 [.c 4 (some 8),.t 5]:=⟨⟨Tryz.f67,Tryz.func67,by kernel_rfl⟩,Tryz.call67,za5⟩
theorem zIN:FnOk Tryz.prog 100 zJ7 1 [.t 2]:=⟨⟨Tryz.f100,Tryz.func100,by kernel_rfl⟩,Tryz.call100,za5⟩
theorem zJu:FnOk Tryz.prog 150 zKO 1 [.t 2]:=⟨⟨Tryz.f150,Tryz.func150,by kernel_rfl⟩,Tryz.call150,za5⟩
theorem zJc:FnOk Tryz.prog 131 zKw 1 [.t 2]:=⟨⟨Tryz.f131,Tryz.func131,by kernel_rfl⟩,Tryz.call131,za5⟩
theorem zJd:FnOk Tryz.prog 132 zKx 2 [.t 4]:=⟨⟨Tryz.f132,Tryz.func132,by kernel_rfl⟩,Tryz.call132,za5⟩
theorem zJe:FnOk Tryz.prog 133 zKy 1 [.t 2]:=⟨⟨Tryz.f133,Tryz.func133,by kernel_rfl⟩,Tryz.call133,za5⟩
theorem zIP:FnOk Tryz.prog 102 zJ9 2 [.t 4]:=⟨⟨Tryz.f102,Tryz.func102,by kernel_rfl⟩,Tryz.call102,za5⟩
theorem zLU:FnOk Tryz.prog 51 c51 2 [.t 4,.t 5]:=⟨⟨Tryz.f51,Tryz.func51,by kernel_rfl⟩,Tryz.call51,za5⟩
theorem zJf:FnOk Tryz.prog 134 zKz 1 [.t 2]:=⟨⟨Tryz.f134,Tryz.func134,by kernel_rfl⟩,Tryz.call134,za5⟩
theorem zIQ:FnOk Tryz.prog 103 zKa 1 [.t 2]:=⟨⟨Tryz.f103,Tryz.func103,by kernel_rfl⟩,Tryz.call103,za5⟩
theorem zMz:FnOk Tryz.prog 73 c73 1 [.c 2 (some 2)]:=⟨⟨Tryz.f73,Tryz.func73,by kernel_rfl⟩,Tryz.call73,za5⟩
theorem zMa:FnOk Tryz.prog 32 c32 1 [.t 2]:=⟨⟨Tryz.f32,Tryz.func32,by kernel_rfl⟩,Tryz.call32,za5⟩
theorem zMr:FnOk Tryz.prog 61 c61 2 [.t 3]:=⟨⟨Tryz.f61,Tryz.func61,by kernel_rfl⟩,Tryz.call61,za5⟩
theorem zMN:FnOk Tryz.prog 93 c93 2 [.t 4]:=⟨⟨Tryz.f93,Tryz.func93,by kernel_rfl⟩,Tryz.call93,za5⟩
theorem zMq:FnOk Tryz.prog 60 c60 2 [.t 4]:=⟨⟨Tryz.f60,Tryz.func60,by kernel_rfl⟩,Tryz.call60,za5⟩
theorem zMs:FnOk Tryz.prog 62 c62 2 [.t 4]:=⟨⟨Tryz.f62,Tryz.func62,by kernel_rfl⟩,Tryz.call62,za5⟩
theorem zMA:FnOk Tryz.prog 74 c74 3 [.c 6 (some 8),.t 7]:=⟨⟨Tryz.f74,Tryz.func74,by kernel_rfl⟩,Tryz.call74,za5⟩
theorem zMw:FnOk Tryz.prog 69 c69 3 [.t 6]:=⟨⟨Tryz.f69,Tryz.func69,by kernel_rfl⟩,Tryz.call69,za5⟩
theorem zMP:FnOk Tryz.prog 95 c95 2 [.t 3]:=⟨⟨Tryz.f95,Tryz.func95,by kernel_rfl⟩,Tryz.call95,za5⟩
theorem zMt:FnOk Tryz.prog 63 c63 2 [.t 4]:=⟨⟨Tryz.f63,Tryz.func63,by kernel_rfl⟩,Tryz.call63,za5⟩
theorem zMb:FnOk Tryz.prog 33 c33 3 [.t 6]:=⟨⟨Tryz.f33,Tryz.func33,by kernel_rfl⟩,Tryz.call33,za5⟩
theorem zMy:FnOk Tryz.prog 72 c72 3 [.t 6]:=⟨⟨Tryz.f72,Tryz.func72,by kernel_rfl⟩,Tryz.call72,za5⟩
theorem zMQ:FnOk Tryz.prog 96 c96 3 [.t 4]:=⟨⟨Tryz.f96,Tryz.func96,by kernel_rfl⟩,Tryz.call96,za5⟩
theorem zMu:FnOk Tryz.prog 64 c64 3 [.t 6]:=⟨⟨Tryz.f64,Tryz.func64,by kernel_rfl⟩,Tryz.call64,za5⟩
theorem zL8:FnOk Tryz.prog 30 c30 1 [.c 2 (some 4)]:=⟨⟨Tryz.f30,Tryz.func30,by kernel_rfl⟩,Tryz.call30,za5⟩
theorem zMv:FnOk Tryz.prog 66 c66 2 [.t 3]:=⟨⟨Tryz.f66,Tryz.func66,by kernel_rfl⟩,Tryz.call66,za5⟩
theorem zMx:FnOk Tryz.prog 70 c70 1 [.t 2]:=⟨⟨Tryz.f70,Tryz.func70,by kernel_rfl⟩,Tryz.call70,za5⟩
theorem zL9:FnOk Tryz.prog 31 c31 1 [.c 2 (some 2)]:=⟨⟨Tryz.f31,Tryz.func31,by kernel_rfl⟩,Tryz.call31,za5⟩
theorem ok9:FnOk Tryz.prog 9 c9 1 [.c 2 (some 3),.c 3 (some 4)]:=⟨⟨Tryz.f9,Tryz.func9,by kernel_rfl⟩,Tryz.call9,za5⟩
theorem zMF:FnOk Tryz.prog 80 c80 1 [.c 2 (some 4),.t 3]:=⟨⟨Tryz.f80,Tryz.func80,by kernel_rfl⟩,Tryz.call80,za5⟩
theorem zIV:FnOk Tryz.prog 108 zKf 2 [.t 4]:=⟨⟨Tryz.f108,Tryz.func108,by kernel_rfl⟩,Tryz.call108,za5⟩
theorem zJn:FnOk Tryz.prog 142 zKH 3 [.t 6]:=⟨⟨Tryz.f142,Tryz.func142,by kernel_rfl⟩,Tryz.call142,za5⟩
theorem zJl:FnOk Tryz.prog 140 zKF 3 [.t 6]:=⟨⟨Tryz.f140,Tryz.func140,by kernel_rfl⟩,Tryz.call140,za5⟩
theorem zJm:FnOk Tryz.prog 141 zKG 4 [.t 8]:=⟨⟨Tryz.f141,Tryz.func141,by kernel_rfl⟩,Tryz.call141,za5⟩
theorem zJo:FnOk Tryz.prog 143 zKI 4 [.t 5]:=⟨⟨Tryz.f143,Tryz.func143,by kernel_rfl⟩,Tryz.call143,za5⟩
theorem zIW:FnOk Tryz.prog 109 zKg 4 [.t 8]:=⟨⟨Tryz.f109,Tryz.func109,by kernel_rfl⟩,Tryz.call109,za5⟩
theorem zJp:FnOk Tryz.prog 144 zKJ 2 [.t 4]:=⟨⟨Tryz.f144,Tryz.func144,by kernel_rfl⟩,Tryz.call144,za5⟩
theorem zIY:FnOk Tryz.prog 111 zKi 2 [.t 4]:=⟨⟨Tryz.f111,Tryz.func111,by kernel_rfl⟩,Tryz.call111,za5⟩
theorem zMG:FnOk Tryz.prog 81 c81 1 [.t 2,.t 3,.t 4]:=⟨⟨Tryz.f81,Tryz.func81,by kernel_rfl⟩,Tryz.call81,za5⟩
theorem zMh:FnOk Tryz.prog 41 c41 1 [.t 2,.t 3]:=⟨⟨Tryz.f41,Tryz.func41,by kernel_rfl⟩,Tryz.call41,za5⟩
theorem zMi:FnOk Tryz.prog 42 c42 2 [.t 4]:=⟨⟨Tryz.f42,Tryz.func42,by kernel_rfl⟩,Tryz.call42,za5⟩
theorem zL5:FnOk Tryz.prog 20 c20 2 [.t 4]:=⟨⟨Tryz.f20,Tryz.func20,by kernel_rfl⟩,Tryz.call20,za5⟩
theorem zL2:FnOk Tryz.prog 14 c14 2 [.t 4]:=⟨⟨Tryz.f14,Tryz.func14,by kernel_rfl⟩,Tryz.call14,za5⟩
theorem zJx:FnOk Tryz.prog 153 zKR 2 [.t 4]:=⟨⟨Tryz.f153,Tryz.func153,by kernel_rfl⟩,Tryz.call153,za5⟩
theorem zJi:FnOk Tryz.prog 137 zKC 2 [.t 4]:=⟨⟨Tryz.f137,Tryz.func137,by kernel_rfl⟩,Tryz.call137,za5⟩
theorem zIT:FnOk Tryz.prog 106 zKd 2 [.t 4]:=⟨⟨Tryz.f106,Tryz.func106,by kernel_rfl⟩,Tryz.call106,za5⟩
theorem zMD:FnOk Tryz.prog 77 c77 2 [.t 4]:=⟨⟨Tryz.f77,Tryz.func77,by kernel_rfl⟩,Tryz.call77,za5⟩
theorem zMe:FnOk Tryz.prog 36 c36 2 [.t 4]:=⟨⟨Tryz.f36,Tryz.func36,by kernel_rfl⟩,Tryz.call36,za5⟩
theorem zL3:FnOk Tryz.prog 15 c15 2 [.t 4]:=⟨⟨Tryz.f15,Tryz.func15,by kernel_rfl⟩,Tryz.call15,za5⟩
theorem ok5:FnOk Tryz.prog 5 c5 2 [.t 4]:=⟨⟨Tryz.f5,Tryz.func5,by kernel_rfl⟩,Tryz.call5,za5⟩
theorem zsO:EOk Tryz.prog ziY:=EOk.pure (Z:=[]) (tys:=zG7) zJB rfl (trivial) rfl rfl (ztS)
theorem zwa:EOk Tryz.prog zmc:=EOk.pure (Z:=[ziY]) (tys:=zG1) zJv rfl (⟨zsO,trivial⟩) rfl rfl (zw6)
theorem zuO:EOk Tryz.prog zkm:=EOk.pure (Z:=[zmc]) (tys:=zGM) zJg rfl (⟨zwa,trivial⟩) rfl rfl (zvm)
theorem zyP:EOk Tryz.prog znY:=EOk.pure (Z:=[zkm]) (tys:=zGn) zIR rfl (⟨zuO,trivial⟩) rfl rfl (zzF)
theorem zwc:EOk Tryz.prog zme:=EOk.pure (Z:=[znY]) (tys:=zLA) zMB rfl (⟨zyP,trivial⟩) rfl rfl (zw8)
theorem zyO:EOk Tryz.prog znX:=EOk.pure (Z:=[zme]) (tys:=zLb) zMc rfl (⟨zwc,trivial⟩) rfl rfl (zzE)
theorem zwb:EOk Tryz.prog zmd:=EOk.pure (Z:=[znX]) (tys:=zKZ) zL0 rfl (⟨zyO,trivial⟩) rfl rfl (zw7)
theorem zsP:EOk Tryz.prog ziZ:=EOk.pure (Z:=[]) (tys:=zG8) zJC rfl (trivial) rfl rfl (ztT)
theorem zwd:EOk Tryz.prog zmf:=EOk.pure (Z:=[ziZ]) (tys:=zG2) zJw rfl (⟨zsP,trivial⟩) rfl rfl (zw9)
theorem zuP:EOk Tryz.prog zkn:=EOk.pure (Z:=[zmf]) (tys:=zGN) zJh rfl (⟨zwd,trivial⟩) rfl rfl (zvn)
theorem zyR:EOk Tryz.prog zn0:=EOk.pure (Z:=[zkn]) (tys:=zGo) zIS rfl (⟨zuP,trivial⟩) rfl rfl (zzH)
theorem zwf:EOk Tryz.prog zmh:=EOk.pure (Z:=[zn0]) (tys:=zLB) zMC rfl (⟨zyR,trivial⟩) rfl rfl (zxb)
theorem zyQ:EOk Tryz.prog znZ:=EOk.pure (Z:=[zmh]) (tys:=zLc) zMd rfl (⟨zwf,trivial⟩) rfl rfl (zzG)
theorem zwe:EOk Tryz.prog zmg:=EOk.pure (Z:=[znZ]) (tys:=zK0) zL1 rfl (⟨zyQ,trivial⟩) rfl rfl (zxa)
theorem zHp:EOk Tryz.prog zAh:=EOk.pure (Z:=[]) (tys:=zGW) zJq rfl (trivial) rfl rfl (zIc)
theorem zCE:EOk Tryz.prog zsu:=EOk.pure (Z:=[zAh]) (tys:=zGw) zI0 rfl (⟨zHp,trivial⟩) rfl rfl (zDj)
theorem zof:EOk Tryz.prog zfd:=EOk.pure (Z:=[]) (tys:=zGx) zI1 rfl (trivial) rfl rfl (zzA)
theorem zxM:EOk Tryz.prog znb:=EOk.pure (Z:=[zsu,zfd]) (tys:=zLJ) zMK rfl (⟨zCE,⟨zof,trivial⟩⟩) rfl rfl (zDl)
theorem zlb:EOk Tryz.prog zdn:=EOk.pure (Z:=[]) (tys:=zLm) zMn rfl (trivial) rfl rfl (zDm)
theorem zkA:EOk Tryz.prog zc9:=EOk.pure (Z:=[]) (tys:=zLn) zMo rfl (trivial) rfl rfl (zBZ)
theorem zEI:EOk Tryz.prog zvF:=EOk.pure (Z:=[zc9]) (tys:=zGy) zI2 rfl (⟨zkA,trivial⟩) rfl rfl (zFR)
theorem zAO:EOk Tryz.prog zp6:=EOk.pure (Z:=[zc9]) (tys:=zGz) zI3 rfl (⟨zkA,trivial⟩) rfl rfl (zB0)
theorem zAN:EOk Tryz.prog zp5:=EOk.pure (Z:=[znb,zfd,zdn,zc9,zvF,zp6]) (tys:=zLK) zML rfl (⟨zxM,⟨zof,⟨zlb,⟨zkA,⟨zEI,⟨zAO,trivial⟩⟩⟩⟩⟩⟩) rfl rfl (zBY)
theorem zCF:EOk Tryz.prog zsv:=EOk.pure (Z:=[]) (tys:=zGA) zI4 rfl (trivial) rfl rfl (zDk)
theorem zAP:EOk Tryz.prog zp7:=EOk.pure (Z:=[zsv]) (tys:=zLL) zMM rfl (⟨zCF,trivial⟩) rfl rfl (zB1)
theorem zmn:EOk Tryz.prog zdV:=EOk.pure (Z:=[znb,zp5,zp7]) (tys:=zLk) zMl rfl (⟨zxM,⟨zAN,⟨zAP,trivial⟩⟩⟩) rfl rfl (zwY)
theorem zv5:EOk Tryz.prog zl7:=EOk.pure (Z:=[zdn]) (tys:=zLG) zMH rfl (⟨zlb,trivial⟩) rfl rfl (zFT)
theorem zoe:EOk Tryz.prog zfc:=EOk.pure (Z:=[zdn,zc9]) (tys:=zK6) zL7 rfl (⟨zlb,⟨zkA,trivial⟩⟩) rfl rfl (zFQ)
theorem zr5:EOk Tryz.prog zio:=EOk.pure (Z:=[zfc]) (tys:=zLl) zMm rfl (⟨zoe,trivial⟩) rfl rfl (zzB)
theorem zAQ:EOk Tryz.prog zp8:=EOk.pure (Z:=[]) (tys:=zGv) zIZ rfl (trivial) rfl rfl (zB2)
theorem zAS:EOk Tryz.prog zqa:=EOk.pure (Z:=[zio,zfc,zp8,zl7]) (tys:=zLH) zMI rfl (⟨zr5,⟨zoe,⟨zAQ,⟨zv5,trivial⟩⟩⟩⟩) rfl rfl (zB4)
theorem zAR:EOk Tryz.prog zp9:=EOk.pure (Z:=[zdV,zl7,zqa]) (tys:=zLi) zMj rfl (⟨zmn,⟨zv5,⟨zAS,trivial⟩⟩⟩) rfl rfl (zB3)
theorem zEK:EOk Tryz.prog zvH:=EOk.pure (Z:=[zc9]) (tys:=zLI) zMJ rfl (⟨zkA,trivial⟩) rfl rfl (zFU)
theorem zEJ:EOk Tryz.prog zvG:=EOk.pure (Z:=[zdn,zl7,zvH]) (tys:=zLj) zMk rfl (⟨zlb,⟨zv5,⟨zEK,trivial⟩⟩⟩) rfl rfl (zFS)
theorem zqu:EOk Tryz.prog zg8:=EOk.pure (Z:=[zp9,zvG,zdV,zio]) (tys:=zK5) zL6 rfl (⟨zAR,⟨zEJ,⟨zmn,⟨zr5,trivial⟩⟩⟩⟩) rfl rfl (zwW)
theorem zAU:EOk Tryz.prog zqc:=EOk.pure (Z:=[zfc]) (tys:=zG4) zJy rfl (⟨zoe,trivial⟩) rfl rfl (zB7)
theorem zuM:EOk Tryz.prog zkk:=EOk.pure (Z:=[zdn]) (tys:=zG6) zJA rfl (⟨zlb,trivial⟩) rfl rfl (zB6)
theorem zAT:EOk Tryz.prog zqb:=EOk.pure (Z:=[zfc,zkk]) (tys:=zG5) zJz rfl (⟨zoe,⟨zuM,trivial⟩⟩) rfl rfl (zB5)
theorem zCG:EOk Tryz.prog zsw:=EOk.pure (Z:=[zqc,zqb,zfc,zkk]) (tys:=zGP) zJj rfl (⟨zAU,⟨zAT,⟨zoe,⟨zuM,trivial⟩⟩⟩⟩) rfl rfl (zDn)
theorem zCH:EOk Tryz.prog zsx:=EOk.pure (Z:=[]) (tys:=zGQ) zJk rfl (trivial) rfl rfl (zDo)
theorem zsH:EOk Tryz.prog ziR:=EOk.te (Z:=[zdn,zsw,zfd,zsx]) (tys:=zGq) zIU rfl (⟨zlb,⟨zCG,⟨zof,⟨zCH,trivial⟩⟩⟩⟩) (by kernel_rfl) rfl (ztL)
theorem zEL:EOk Tryz.prog zvI:=EOk.te (Z:=[ziR]) (tys:=zLD) zME rfl (⟨zsH,trivial⟩) (by kernel_rfl) rfl (zFV)
theorem zAJ:EOk Tryz.prog zp1:=EOk.pure (Z:=[zg8,zvI]) (tys:=zLe) zMf rfl (⟨zqu,⟨zEL,trivial⟩⟩) rfl rfl (zBU)
theorem zuL:EOk Tryz.prog zkj:=EOk.pure (Z:=[zdV,zfc]) (tys:=zLf) zMg rfl (⟨zmn,⟨zoe,trivial⟩⟩) rfl rfl (zvg)
theorem zv2:EOk Tryz.prog zl4:=EOk.pure (Z:=[zg8,zp1,zkj]) (tys:=zK3) zL4 rfl (⟨zqu,⟨zAJ,⟨zuL,trivial⟩⟩⟩) rfl rfl (zwX)
theorem zAL:EOk Tryz.prog zp3:=EOk.pure (Z:=[]) (tys:=zLo) zMp rfl (trivial) rfl rfl (zIb)
theorem zyJ:EOk Tryz.prog znS:=EOk.pure (Z:=[zp3]) (tys:=zGC) zI6 rfl (⟨zAL,trivial⟩) rfl rfl (zzw)
theorem zgm:EOk Tryz.prog zbA:=EOk.pure (Z:=[]) (tys:=zGX) zJr rfl (trivial) rfl rfl (zgp)
theorem zcj:EOk Tryz.prog zay:=EOk.pure (Z:=[zbA]) (tys:=zGD) zI7 rfl (⟨zgm,trivial⟩) rfl rfl (zfr)
theorem zla:EOk Tryz.prog zdm:=EOk.pure (Z:=[znS,zay]) (tys:=zGk) zIO rfl (⟨zyJ,⟨zcj,trivial⟩⟩) rfl rfl (zzv)
theorem zkw:EOk Tryz.prog zc5:=EOk.pure (Z:=[]) (tys:=zGB) zI5 rfl (trivial) rfl rfl (zq9)
theorem zpd:EOk Tryz.prog zf2:=EOk.pure (Z:=[zc5]) (tys:=zIf) zLV rfl (⟨zkw,trivial⟩) rfl rfl (zpo)
theorem zdp:EOk Tryz.prog zaL:=EOk.pure (Z:=[zf2,zc5]) (tys:=zLN) zMO rfl (⟨zpd,⟨zkw,trivial⟩⟩) rfl rfl (ztH)
theorem zf6:EOk Tryz.prog zbo:=EOk.pure (Z:=[]) (tys:=zGt) zIX rfl (trivial) rfl rfl (zph)
theorem zeP:EOk Tryz.prog za0:=EOk.pure (Z:=[zdm]) (tys:=zGY) zJs rfl (⟨zla,trivial⟩) rfl rfl (znH)
theorem zmr:EOk Tryz.prog zdZ:=EOk.pure (Z:=[za0]) (tys:=zyu) zE6 rfl (⟨zeP,trivial⟩) rfl rfl (zmG)
theorem zmp:EOk Tryz.prog zdX:=EOk.pure (Z:=[zdZ,za0]) (tys:=zFX) zJD rfl (⟨zmr,⟨zeP,trivial⟩⟩) rfl rfl (zmE)
theorem zeQ:EOk Tryz.prog za1:=EOk.pure (Z:=[zdm,zbo,zdX,za0]) (tys:=zGZ) zJt rfl (⟨zla,⟨zf6,⟨zmp,⟨zeP,trivial⟩⟩⟩⟩) rfl rfl (znI)
theorem zms:EOk Tryz.prog zd0:=EOk.pure (Z:=[za1]) (tys:=zxs) zE7 rfl (⟨zeQ,trivial⟩) rfl rfl (zmH)
theorem zmq:EOk Tryz.prog zdY:=EOk.pure (Z:=[zd0,za1]) (tys:=zzK) zF5 rfl (⟨zms,⟨zeQ,trivial⟩⟩) rfl rfl (zmF)
theorem zpa:EOk Tryz.prog zfZ:=EOk.pure (Z:=[zdm,zp3,zdY,za1]) (tys:=zGF) zI9 rfl (⟨zla,⟨zAL,⟨zmq,⟨zeQ,trivial⟩⟩⟩⟩) rfl rfl (zpi)
theorem zrp:EOk Tryz.prog zhP:=EOk.pure (Z:=[]) (tys:=zGH) zJb rfl (trivial) rfl rfl (zrE)
theorem zAM:EOk Tryz.prog zp4:=EOk.pure (Z:=[zay]) (tys:=zGG) zJa rfl (⟨zcj,trivial⟩) rfl rfl (zBX)
theorem zdy:EOk Tryz.prog zaN:=EOk.pure (Z:=[zaL,zbo]) (tys:=zGE) zI8 rfl (⟨zdp,⟨zf6,trivial⟩⟩) rfl rfl (zlt)
theorem zkD:EOk Tryz.prog zdc:=EOk.pure (Z:=[zaN]) (tys:=zxs) zE7 rfl (⟨zdy,trivial⟩) rfl rfl (zkZ)
theorem zkB:EOk Tryz.prog zda:=EOk.pure (Z:=[zdc,zaN]) (tys:=zzK) zF5 rfl (⟨zkD,⟨zdy,trivial⟩⟩) rfl rfl (zkX)
theorem zhh:EOk Tryz.prog zbL:=EOk.pure (Z:=[]) (tys:=zLQ) zMR rfl (trivial) rfl rfl (zrb)
theorem zjB:EOk Tryz.prog zcI:=EOk.pure (Z:=[zbL]) (tys:=zxs) zE7 rfl (⟨zhh,trivial⟩) rfl rfl (zpp)
theorem zgk:EOk Tryz.prog zby:=EOk.pure (Z:=[zcI,zbL]) (tys:=zIg) zLW rfl (⟨zjB,⟨zhh,trivial⟩⟩) rfl rfl (ztI)
theorem zoc:EOk Tryz.prog zfa:=EOk.te (Z:=[zcI,zbL]) (tys:=zIg) zLW rfl (⟨zjB,⟨zhh,trivial⟩⟩) (by kernel_rfl) rfl (zox)
theorem zdg:EOk Tryz.prog zaK:=EOk.pure (Z:=[]) (tys:=zGj) zIN rfl (trivial) rfl rfl (zq8)
theorem zhC:EOk Tryz.prog zb2:=EOk.pure (Z:=[zaK]) (tys:=zG0) zJu rfl (⟨zdg,trivial⟩) rfl rfl (znF)
theorem zqv:EOk Tryz.prog zg9:=EOk.pure (Z:=[zby,zb2]) (tys:=zGI) zJc rfl (⟨zgk,⟨zhC,trivial⟩⟩) rfl rfl (zra)
theorem zf7:EOk Tryz.prog zbp:=EOk.pure (Z:=[zaK,zby,zb2]) (tys:=zGJ) zJd rfl (⟨zdg,⟨zgk,⟨zhC,trivial⟩⟩⟩) rfl rfl (zpj)
theorem zoi:EOk Tryz.prog zfg:=EOk.pure (Z:=[zbp]) (tys:=zxs) zE7 rfl (⟨zf7,trivial⟩) rfl rfl (zoA)
theorem zog:EOk Tryz.prog zfe:=EOk.pure (Z:=[zfg,zbp]) (tys:=zzK) zF5 rfl (⟨zoi,⟨zf7,trivial⟩⟩) rfl rfl (zoy)
theorem zdz:EOk Tryz.prog zaO:=EOk.pure (Z:=[]) (tys:=zGK) zJe rfl (trivial) rfl rfl (zlu)
theorem zkE:EOk Tryz.prog zdd:=EOk.pure (Z:=[zaO]) (tys:=zxs) zE7 rfl (⟨zdz,trivial⟩) rfl rfl (zk0)
theorem zkC:EOk Tryz.prog zdb:=EOk.pure (Z:=[zdd,zaO]) (tys:=zzK) zF5 rfl (⟨zkE,⟨zdz,trivial⟩⟩) rfl rfl (zkY)
theorem zns:EOk Tryz.prog zeO:=EOk.pure (Z:=[zaL,zfZ,zhP,zp4,zda,zaN,zg9,zfe,zbp,zdb,zaO]) (tys:=zGl) zIP rfl (⟨zdp,⟨zpa,⟨zrp,⟨zAM,⟨zkB,⟨zdy,⟨zqv,⟨zog,⟨zf7,⟨zkC,⟨zdz,trivial⟩⟩⟩⟩⟩⟩⟩⟩⟩⟩⟩) rfl rfl (znG)
theorem zpg:EOk Tryz.prog zf5:=EOk.te (Z:=[zhR]) (tys:=zIe) zLU rfl (⟨zrr,trivial⟩) (by kernel_rfl) rfl (zps)
theorem zkF:EOk Tryz.prog zde:=EOk.te (Z:=[zd1]) (tys:=zIe) zLU rfl (⟨zmt,trivial⟩) (by kernel_rfl) rfl (zk1)
theorem zrm:EOk Tryz.prog zhM:=EOk.pure (Z:=[zaK,zhS]) (tys:=zGL) zJf rfl (⟨zdg,⟨zrs,trivial⟩⟩) rfl rfl (zrA)
theorem zro:EOk Tryz.prog zhO:=EOk.pure (Z:=[zf5,zde,zhM,zl8]) (tys:=zGm) zIQ rfl (⟨zpg,⟨zkF,⟨zrm,⟨zv6,trivial⟩⟩⟩⟩) rfl rfl (zrD)
theorem zsE:EOk Tryz.prog ziO:=EOk.pure (Z:=[zdm,zeO,zhO]) (tys:=zLy) zMz rfl (⟨zla,⟨zns,⟨zro,trivial⟩⟩⟩) rfl rfl (ztG)
theorem zod:EOk Tryz.prog zfb:=EOk.pure (Z:=[ziO]) (tys:=zK9) zMa rfl (⟨zsE,trivial⟩) rfl rfl (zzy)
theorem zf8:EOk Tryz.prog zbq:=EOk.pure (Z:=[]) (tys:=zLq) zMr rfl (trivial) rfl rfl (zpl)
theorem zoj:EOk Tryz.prog zfh:=EOk.pure (Z:=[zbq]) (tys:=zLM) zMN rfl (⟨zf8,trivial⟩) rfl rfl (zoB)
theorem zoh:EOk Tryz.prog zff:=EOk.pure (Z:=[zfh,zbq]) (tys:=zLp) zMq rfl (⟨zoj,⟨zf8,trivial⟩⟩) rfl rfl (zoz)
theorem zqx:EOk Tryz.prog zhb:=EOk.pure (Z:=[zaL]) (tys:=zLr) zMs rfl (⟨zdp,trivial⟩) rfl rfl (zBW)
theorem zcN:EOk Tryz.prog zaD:=EOk.pure (Z:=[zaL,zby]) (tys:=zLz) zMA rfl (⟨zdp,⟨zgk,trivial⟩⟩) rfl rfl (zrC)
theorem zhD:EOk Tryz.prog zb3:=EOk.pure (Z:=[zaD]) (tys:=zLv) zMw rfl (⟨zcN,trivial⟩) rfl rfl (zvh)
theorem zkz:EOk Tryz.prog zc8:=EOk.pure (Z:=[]) (tys:=zLO) zMP rfl (trivial) rfl rfl (zvk)
theorem zsM:EOk Tryz.prog ziW:=EOk.pure (Z:=[zc8]) (tys:=zxs) zE7 rfl (⟨zkz,trivial⟩) rfl rfl (ztQ)
theorem zsJ:EOk Tryz.prog ziT:=EOk.pure (Z:=[ziW,zc8]) (tys:=zzK) zF5 rfl (⟨zsM,⟨zkz,trivial⟩⟩) rfl rfl (ztN)
theorem zyL:EOk Tryz.prog znU:=EOk.pure (Z:=[zb3,ziT,zc8]) (tys:=zLs) zMt rfl (⟨zhD,⟨zsJ,⟨zkz,trivial⟩⟩⟩) rfl rfl (zzz)
theorem zqy:EOk Tryz.prog zhc:=EOk.pure (Z:=[zaD]) (tys:=zLa) zMb rfl (⟨zcN,trivial⟩) rfl rfl (zw1)
theorem zmo:EOk Tryz.prog zdW:=EOk.pure (Z:=[zb3,zaK]) (tys:=zLx) zMy rfl (⟨zhD,⟨zdg,trivial⟩⟩) rfl rfl (zw2)
theorem zhi:EOk Tryz.prog zbM:=EOk.pure (Z:=[zdW]) (tys:=zLP) zMQ rfl (⟨zmo,trivial⟩) rfl rfl (zrc)
theorem zpe:EOk Tryz.prog zf3:=EOk.pure (Z:=[zbM]) (tys:=zyu) zE6 rfl (⟨zhi,trivial⟩) rfl rfl (zpq)
theorem zpb:EOk Tryz.prog zf0:=EOk.pure (Z:=[zf3,zbM]) (tys:=zFX) zJD rfl (⟨zpe,⟨zhi,trivial⟩⟩) rfl rfl (zpm)
theorem zsF:EOk Tryz.prog ziP:=EOk.pure (Z:=[zhc,zb3,zdW,zhb,zf0,zbM]) (tys:=zLt) zMu rfl (⟨zqy,⟨zhD,⟨zmo,⟨zqx,⟨zpb,⟨zhi,trivial⟩⟩⟩⟩⟩⟩) rfl rfl (ztJ)
theorem zrq:EOk Tryz.prog zhQ:=EOk.pure (Z:=[zp3,zfb,zff,zbq,zhb,znU,ziP]) (tys:=zK7) zL8 rfl (⟨zAL,⟨zod,⟨zoh,⟨zf8,⟨zqx,⟨zyL,⟨zsF,trivial⟩⟩⟩⟩⟩⟩⟩) rfl rfl (zrG)
theorem zoZ:EOk Tryz.prog zfQ:=EOk.pure (Z:=[]) (tys:=zLu) zMv rfl (trivial) rfl rfl (zvi)
theorem zsK:EOk Tryz.prog ziU:=EOk.pure (Z:=[zfQ]) (tys:=zIf) zLV rfl (⟨zoZ,trivial⟩) rfl rfl (ztO)
theorem zky:EOk Tryz.prog zc7:=EOk.pure (Z:=[]) (tys:=zLw) zMx rfl (trivial) rfl rfl (zvj)
theorem zsL:EOk Tryz.prog ziV:=EOk.pure (Z:=[zc7]) (tys:=zxs) zE7 rfl (⟨zky,trivial⟩) rfl rfl (ztP)
theorem zsI:EOk Tryz.prog ziS:=EOk.pure (Z:=[ziV,zc7]) (tys:=zzK) zF5 rfl (⟨zsL,⟨zky,trivial⟩⟩) rfl rfl (ztM)
theorem zyK:EOk Tryz.prog znT:=EOk.pure (Z:=[ziU,zfQ,zhb,zby,zfa,zb3,ziS,zc7,zdW,zbz]) (tys:=zK8) zL9 rfl (⟨zsK,⟨zoZ,⟨zqx,⟨zgk,⟨zoc,⟨zhD,⟨zsI,⟨zky,⟨zmo,⟨zgl,trivial⟩⟩⟩⟩⟩⟩⟩⟩⟩⟩) rfl rfl (zzx)
theorem znr:EOk Tryz.prog zeN:=EOk.pure (Z:=[zhQ,znT,zfb,zhc]) (tys:=cy9) ok9 rfl (⟨zrq,⟨zyK,⟨zod,⟨zqy,trivial⟩⟩⟩⟩) rfl rfl (ztE)
theorem zv4:EOk Tryz.prog zl6:=EOk.pure (Z:=[zeN]) (tys:=zLE) zMF rfl (⟨znr,trivial⟩) rfl rfl (zw0)
theorem zAK:EOk Tryz.prog zp2:=EOk.pure (Z:=[za4]) (tys:=zGr) zIV rfl (⟨zeX,trivial⟩) rfl rfl (zBV)
theorem zkx:EOk Tryz.prog zc6:=EOk.pure (Z:=[zaL]) (tys:=zGT) zJn rfl (⟨zdp,trivial⟩) rfl rfl (zrd)
theorem zlU:EOk Tryz.prog zdM:=EOk.pure (Z:=[zaD,zc6]) (tys:=zGR) zJl rfl (⟨zcN,⟨zkx,trivial⟩⟩) rfl rfl (zrF)
theorem zjA:EOk Tryz.prog zcH:=EOk.pure (Z:=[zaD,zaK]) (tys:=zGS) zJm rfl (⟨zcN,⟨zdg,trivial⟩⟩) rfl rfl (zpk)
theorem zhj:EOk Tryz.prog zbN:=EOk.pure (Z:=[zcH,zdM]) (tys:=zGU) zJo rfl (⟨zjA,⟨zlU,trivial⟩⟩) rfl rfl (zrf)
theorem zpf:EOk Tryz.prog zf4:=EOk.pure (Z:=[zbN]) (tys:=zyu) zE6 rfl (⟨zhj,trivial⟩) rfl rfl (zpr)
theorem zpc:EOk Tryz.prog zf1:=EOk.pure (Z:=[zf4,zbN]) (tys:=zFX) zJD rfl (⟨zpf,⟨zhj,trivial⟩⟩) rfl rfl (zpn)
theorem zsG:EOk Tryz.prog ziQ:=EOk.pure (Z:=[zdM,zcH,zc6,zaD,zf1,zbN]) (tys:=zGs) zIW rfl (⟨zlU,⟨zjA,⟨zkx,⟨zcN,⟨zpc,⟨zhj,trivial⟩⟩⟩⟩⟩⟩) rfl rfl (ztK)
theorem zfT:EOk Tryz.prog zbh:=EOk.pure (Z:=[]) (tys:=zGV) zJp rfl (trivial) rfl rfl (zfX)
theorem zeR:EOk Tryz.prog za2:=EOk.pure (Z:=[zbh]) (tys:=zGu) zIY rfl (⟨zfT,trivial⟩) rfl rfl (zeW)
theorem zqw:EOk Tryz.prog zha:=EOk.pure (Z:=[zaL,zp2,ziQ,zbo,za2]) (tys:=zLF) zMG rfl (⟨zdp,⟨zAK,⟨zsG,⟨zf6,⟨zeR,trivial⟩⟩⟩⟩⟩) rfl rfl (zre)
theorem zv3:EOk Tryz.prog zl5:=EOk.pure (Z:=[zl6,zha]) (tys:=zLg) zMh rfl (⟨zv4,⟨zqw,trivial⟩⟩) rfl rfl (zwZ)
theorem zrn:EOk Tryz.prog zhN:=EOk.pure (Z:=[zfb,zaD]) (tys:=zLh) zMi rfl (⟨zod,⟨zcN,trivial⟩⟩) rfl rfl (zrB)
theorem zsD:EOk Tryz.prog ziN:=EOk.pure (Z:=[zeN,zl5,zhN]) (tys:=zK4) zL5 rfl (⟨znr,⟨zv3,⟨zrn,trivial⟩⟩⟩) rfl rfl (ztF)
theorem zsN:EOk Tryz.prog ziX:=EOk.pure (Z:=[]) (tys:=zK1) zL2 rfl (trivial) rfl rfl (ztR)
theorem zv7:EOk Tryz.prog zl9:=EOk.pure (Z:=[ziX]) (tys:=zG3) zJx rfl (⟨zsN,trivial⟩) rfl rfl (zw3)
theorem zuN:EOk Tryz.prog zkl:=EOk.pure (Z:=[zl9]) (tys:=zGO) zJi rfl (⟨zv7,trivial⟩) rfl rfl (zvl)
theorem zyN:EOk Tryz.prog znW:=EOk.pure (Z:=[zkl]) (tys:=zGp) zIT rfl (⟨zuN,trivial⟩) rfl rfl (zzD)
theorem zv9:EOk Tryz.prog zmb:=EOk.pure (Z:=[znW]) (tys:=zLC) zMD rfl (⟨zyN,trivial⟩) rfl rfl (zw5)
theorem zyM:EOk Tryz.prog znV:=EOk.pure (Z:=[zmb]) (tys:=zLd) zMe rfl (⟨zv9,trivial⟩) rfl rfl (zzC)
theorem zv8:EOk Tryz.prog zma:=EOk.pure (Z:=[znV]) (tys:=zK2) zL3 rfl (⟨zyM,trivial⟩) rfl rfl (zw4)
theorem zlp:EOk Tryz.prog zgg:=EOk.pure (Z:=[zmd,zmg,zl4,ziN,zma]) (tys:=cy5) ok5 rfl (⟨zwb,⟨zwe,⟨zv2,⟨zsD,⟨zv8,trivial⟩⟩⟩⟩⟩) rfl rfl (zlv)
end Go.Fw
namespace Go.Fw
open Go
set_option linter.unusedSimpArgs false
set_option linter.unusedVariables false
abbrev KK:Nat:=1048576
def KS(N:Nat)(l:List (List UInt8)):Prop:=l.length<=N/\∀s∈l,s.length<=N
def KF(N:Nat)(f:Field):Prop:=f.name.length<=N/\f.of.length<=N/\KS N f.needs
def KT(N:Nat)(t:Typ):Prop:=t.name.length<=N/\t.key.length<=N/\t.fields.length<=N/\∀f∈t.fields,KF N f
def KP(N:Nat)(p:Part):Prop:=p.name.length<=N/\p.types.length<=N/\∀t∈p.types,KT N t
def KL(N:Nat)(ps:List Part):Prop:=ps.length<=N/\∀p∈ps,KP N p
def Sz(l:Int)(P:Prop)(r:Int):Prop:=-1<=r/\r<=l/\(0<=r->P)
theorem zwG{α:Type}{xs:List α}{g:α×Int->Option Int}{B:α->Prop}(hl:xs.length<=BIG)(hg:∀x∈xs,∀l,0<=l->l<=(KK:Int)->wp (g (x,l)) (Sz l (B x))){l:Int}(h0:0<=l)(h1:l<=(KK:Int)):
  wp (gd (zaF (l-(↑(List.length xs):Int)))
  (zab (decide (l-(↑(List.length xs):Int)<0)) (some (-1))
   (zaa
    (zam
     (fun(s:Int×Int) =>
      zab (decide (s.snd<(↑(List.length xs):Int)))
       (gd (decide (0<=s.snd))
        (zaa xs[Int.toNat s.snd]? fun(x:α) =>
         zaa (g (x,s.fst)) fun(x:Int)=>zab (decide (x<0)) (some (Sum.inr (Sum.inr (-1)))) (gd (zaF (s.snd+1)) (some (Sum.inl (x,s.snd+1))))))
       (some (Sum.inr (Sum.inl (s.fst,s.snd)))))
     (l-(↑(List.length xs):Int),0))
    fun(x:Int×Int⊕Int)=>zau x (fun(d:Int×Int)=>some d.fst) fun(r:Int)=>some r))) (Sz l (xs.length<=KK/\∀x∈xs,B x)):=by
 have hB:BIG=9223372036854775807:=rfl
 have hk:(KK:Int)=1048576:=rfl
 simp only[ywa,ywb,ywc,ywd,ywe,yhw,yhx,yhv,yhy,yhz,yhb,yhc,yhd,yhu,yhe,yhf,yhg,yhh,yhi,yhj,yhk,yhl,yhm,yhn,yho,yhp]
 refine⟨by omega,fun _=>⟨by omega,by omega,fun h=>by omega⟩,fun hn=>?_⟩
 have hlen:xs.length<=KK:=by show xs.length<=1048576;omega
 refine ztC (fun s:Int×Int=>0<=s.1/\s.1<=l/\0<=s.2/\s.2<=xs.length/\∀(j:Nat)(hj:j<xs.length),(j:Int)<s.2->B xs[j]) (fun s=>xs.length-s.2.toNat) ⟨by show(0:Int)<=l-_;omega,by show l-_<=l;omega,by show(0:Int)<=0;omega,by show(0:Int)<=_;omega,fun j _ hj=>by have:(j:Int)<0:=hj;omega⟩ ?_
 rintro⟨a,i⟩ ⟨i1,i2,i3,i4,i5⟩
 dsimp only at i1 i2 i3 i4 i5|-
 simp only[ywa,ywb,ywc,ywd,ywe,yhw,yhx,yhv,yhy,yhz,yhb,yhc,yhd,yhu,yhe,yhf,yhg,yhh,yhi,yhj,yhk,yhl,yhm,yhn,yho,yhp]
 refine⟨fun hlt=>⟨i3,by omega,?_⟩,fun hge=>⟨by omega,i2,fun _=>⟨hlen,fun x hx=>?_⟩⟩⟩
 ·refine(hg _ (ygh _) a i1 (by omega)).mono fun r hr=>?_
  obtain⟨r1,r2,r3⟩:=hr
  refine⟨fun h=>⟨by omega,by omega,fun h=>by omega⟩,fun h=>⟨⟨by omega,by omega⟩,⟨by omega,by omega,by omega,by omega,fun j hj hji=>?_⟩,by omega⟩⟩
  by_cases hj2:(j:Int)<i
  ·exact i5 j hj hj2
  ·have:j=i.toNat:=by omega
   subst this
   exact r3 (by omega)
 ·obtain⟨j,hj,rfl⟩:=List.getElem_of_mem hx
  exact i5 j hj (by omega)
theorem zH1{xs:List (List UInt8)}{l:Int}(hm:KS BIG xs)(h0:0<=l)(h1:l<=(KK:Int)):wp (zeL (xs,l)) (Sz l (KS KK xs)):=by
 have hB:BIG=9223372036854775807:=rfl
 have hk:(KK:Int)=1048576:=rfl
 have hl:=hm.1
 rw[zjv];unfold zev;dsimp only
 simp only[ywa,ywb,ywc,ywd,ywe,yhw,yhx,yhv,yhy,yhz,yhb,yhc,yhd,yhu,yhe,yhf,yhg,yhh,yhi,yhj,yhk,yhl,yhm,yhn,yho,yhp]
 refine⟨by omega,fun _=>⟨by omega,by omega,fun h=>by omega⟩,fun hn=>?_⟩
 have hlen:xs.length<=KK:=by show xs.length<=1048576;omega
 refine ztC (fun s:Int×Int=>0<=s.1/\s.1<=l/\0<=s.2/\s.2<=xs.length/\∀(j:Nat)(hj:j<xs.length),(j:Int)<s.2->xs[j].length<=KK) (fun s=>xs.length-s.2.toNat) ⟨by show(0:Int)<=l-_;omega,by show l-_<=l;omega,by show(0:Int)<=0;omega,by show(0:Int)<=_;omega,fun j _ hj=>by have:(j:Int)<0:=hj;omega⟩ ?_
 rintro⟨a,i⟩ ⟨i1,i2,i3,i4,i5⟩
 dsimp only at i1 i2 i3 i4 i5|-
 simp only[ywa,ywb,ywc,ywd,ywe,yhw,yhx,yhv,yhy,yhz,yhb,yhc,yhd,yhu,yhe,yhf,yhg,yhh,yhi,yhj,yhk,yhl,yhm,yhn,yho,yhp]
 refine⟨fun hlt=>⟨i3,by omega,?_⟩,fun hge=>⟨by omega,i2,fun _=>⟨hlen,fun x hx=>?_⟩⟩⟩
 ·have hb:=hm.2 _ (ygh (h:=(by omega:i.toNat<xs.length)))
  refine⟨by omega,fun h=>⟨by omega,by omega,fun h=>by omega⟩,fun h=>⟨by omega,⟨by omega,by omega,by omega,by omega,fun j hj hji=>?_⟩,by omega⟩⟩
  by_cases hj2:(j:Int)<i
  ·exact i5 j hj hj2
  ·have:j=i.toNat:=by omega
   subst this
   show _<=1048576
   omega
 ·obtain⟨j,hj,rfl⟩:=List.getElem_of_mem hx
  exact i5 j hj (by omega)
theorem Sz.end{l:Int}{x:Int}{P Q:Prop}(h:Sz l P x){l':Int}(hl:l<=l')(hq:P->Q):wp (zab (decide (x<0)) (some (-1)) (some x)) (Sz l' Q):=by
 obtain⟨h1,h2,h3⟩:=h
 simp only[ywa,ywb,ywc,ywd,ywe,yhw,yhx,yhv,yhy,yhz,yhb,yhc,yhd,yhu,yhe,yhf,yhg,yhh,yhi,yhj,yhk,yhl,yhm,yhn,yho,yhp]
 exact⟨fun _=>⟨by omega,by omega,fun h=>by omega⟩,fun h=>⟨by omega,by omega,fun _=>hq (h3 (by omega))⟩⟩
theorem zHZ{x:Field}{l:Int}(hm:KF BIG x)(h0:0<=l)(h1:l<=(KK:Int)):wp (ze7 (x,l)) (Sz l (KF KK x)):=by
 have hB:BIG=9223372036854775807:=rfl
 have hk:(KK:Int)=1048576:=rfl
 obtain⟨a1,a2,a3⟩:=hm
 rw[zlI];unfold zgJ;dsimp only
 rw[ywa,ywc,ywd,ywa,ywc,ywd,ywb]
 simp only[yhc,yhd,yhu]
 refine⟨by omega,fun _=>⟨by omega,by omega,fun h=>by omega⟩,fun h2=>⟨by omega,fun _=>⟨by omega,by omega,fun h=>by omega⟩,fun h3=>(zH1 a3 (by omega) (by omega)).mono fun r hr=>?_⟩⟩
 exact hr.end (by omega) fun hq=>⟨by show _<=1048576;omega,by show _<=1048576;omega,hq⟩
theorem zFF{xs:List Field}{l:Int}(hm:xs.length<=BIG/\∀x∈xs,KF BIG x)(h0:0<=l)(h1:l<=(KK:Int)):wp (zfO (xs,l)) (Sz l (xs.length<=KK/\∀x∈xs,KF KK x)):=by
 rw[zkg];unfold zfF;dsimp only
 exact zwG (g:=ze7) hm.1 (fun x hx l h0 h1=>zHZ (hm.2 x hx) h0 h1) h0 h1
theorem zH2{x:Typ}{l:Int}(hm:KT BIG x)(h0:0<=l)(h1:l<=(KK:Int)):wp (zgv (x,l)) (Sz l (KT KK x)):=by
 have hB:BIG=9223372036854775807:=rfl
 have hk:(KK:Int)=1048576:=rfl
 obtain⟨a1,a2,a3⟩:=hm
 rw[zm3];unfold zh3;dsimp only
 rw[ywa,ywc,ywd,ywa,ywc,ywd,ywb]
 simp only[yhc,yhd,yhu]
 refine⟨by omega,fun _=>⟨by omega,by omega,fun h=>by omega⟩,fun h2=>⟨by omega,fun _=>⟨by omega,by omega,fun h=>by omega⟩,fun h3=>(zFF a3 (by omega) (by omega)).mono fun r hr=>?_⟩⟩
 exact hr.end (by omega) fun hq=>⟨by show _<=1048576;omega,by show _<=1048576;omega,hq⟩
theorem zFG{xs:List Typ}{l:Int}(hm:xs.length<=BIG/\∀x∈xs,KT BIG x)(h0:0<=l)(h1:l<=(KK:Int)):wp (zg5 (xs,l)) (Sz l (xs.length<=KK/\∀x∈xs,KT KK x)):=by
 rw[zlK];unfold zgL;dsimp only
 exact zwG (g:=zgv) hm.1 (fun x hx l h0 h1=>zH2 (hm.2 x hx) h0 h1) h0 h1
theorem zH0{x:Part}{l:Int}(hm:KP BIG x)(h0:0<=l)(h1:l<=(KK:Int)):wp (zgu (x,l)) (Sz l (KP KK x)):=by
 have hB:BIG=9223372036854775807:=rfl
 have hk:(KK:Int)=1048576:=rfl
 obtain⟨a1,a2⟩:=hm
 rw[zm2];unfold zh2;dsimp only
 rw[ywa,ywc,ywd,ywb]
 simp only[yhc,yhd,yhu]
 refine⟨by omega,fun _=>⟨by omega,by omega,fun h=>by omega⟩,fun h2=>(zFG a2 (by omega) (by omega)).mono fun r hr=>?_⟩
 exact hr.end (by omega) fun hq=>⟨by show _<=1048576;omega,hq⟩
theorem zBM{xs:List Part}{l:Int}(hm:KL BIG xs)(h0:0<=l)(h1:l<=(KK:Int)):wp (ze8 (xs,l)) (Sz l (KL KK xs)):=by
 rw[zlJ];unfold zgK;dsimp only
 exact zwG (g:=zgu) hm.1 (fun x hx l h0 h1=>zH0 (hm.2 x hx) h0 h1) h0 h1
theorem ztp{α:Type}{xs:List α}{z:α}{g:α->Option α}(hl:xs.length<=KK)(hg:∀x∈xs,g x=some x):
  gd (decide (0<=(↑(List.length xs):Int))&&decide ((↑(List.length xs):Int)<=(↑LIM:Int)))
  (zaa
   (zam
    (fun(s:Int×List α) =>
     zab (decide (s.fst<(↑(List.length xs):Int)))
      (gd (decide (0<=s.fst))
       (zaa xs[Int.toNat s.fst]? fun(x:α) =>
        zaa (g x) fun(x:α) =>
         gd (decide (0<=s.fst)&&decide (s.fst<(↑(List.length s.snd):Int)))
          (zaa s.snd[Int.toNat s.fst]? fun(x_1:α)=>gd (zaF (s.fst+1)) (some (Sum.inl (s.fst+1,List.set s.snd (Int.toNat s.fst) x))))))
      (some (Sum.inr (s.fst,s.snd))))
    (0,List.replicate (Int.toNat (↑(List.length xs):Int)) z))
   fun(x:Int×List α)=>some x.snd)=some xs:=by
 have hk:KK=1048576:=rfl
 have hL:LIM=1099511627776:=rfl
 rw[<-zFO]
 simp only[ywa,ywb,ywc,ywd,ywe,yhw,yhx,yhv,yhy,yhz,yhb,yhc,yhd,yhu,yhe,yhf,yhg,yhh,yhi,yhj,yhk,yhl,yhm,yhn,yho,yhp]
 refine⟨by omega,?_⟩
 refine ztC (fun s:Int×List α=>0<=s.1/\s.1<=xs.length/\s.2.length=xs.length/\∀(j:Nat)(hj:j<xs.length)(hj2:j<s.2.length),(j:Int)<s.1->s.2[j]=xs[j]) (fun s=>xs.length-s.1.toNat) ⟨by show(0:Int)<=0;omega,by show(0:Int)<=_;omega,by simp,fun j _ _ hj=>by have:(j:Int)<0:=hj;omega⟩ ?_
 rintro⟨i,ys⟩ ⟨i1,i2,i3,i4⟩
 dsimp only at i1 i2 i3 i4|-
 simp only[ywa,ywb,ywc,ywd,ywe,yhw,yhx,yhv,yhy,yhz,yhb,yhc,yhd,yhu,yhe,yhf,yhg,yhh,yhi,yhj,yhk,yhl,yhm,yhn,yho,yhp]
 refine⟨fun hlt=>⟨i1,by omega,zIa (hg _ (ygh _)) ⟨by omega,by omega,by omega,⟨by omega,by omega,by simpa using i3,fun j hj hj2 hji=>?_⟩,by omega⟩⟩,fun hge=>List.ext_getElem i3 fun j hj hj2=>i4 j hj2 hj (by omega)⟩
 by_cases hj3:i.toNat=j
 ·subst hj3
  simp
 ·rw[List.getElem_set_ne hj3]
  exact i4 j hj (by rw[i3];exact hj) (by omega)
theorem zH5{xs:List (List UInt8)}(h:KS KK xs):zeM xs=some xs:=by
 rw[zjw];unfold zew
 exact ztp (g:=fun x=>some x) h.1 (fun _ _=>rfl)
theorem zH3{x:Field}(h:KF KK x):ze9 x=some x:=by
 rw[zlL];unfold zgM
 rw[zH5 h.2.2];rfl
theorem zFJ{xs:List Field}(h:xs.length<=KK/\∀x∈xs,KF KK x):zfP xs=some xs:=by
 rw[zkh];unfold zfG
 exact ztp (g:=ze9) h.1 (fun x hx=>zH3 (h.2 x hx))
theorem zH6{x:Typ}(h:KT KK x):zgx x=some x:=by
 rw[zm5];unfold zh5
 rw[zFJ h.2.2];rfl
theorem zFK{xs:List Typ}(h:xs.length<=KK/\∀x∈xs,KT KK x):zg6 xs=some xs:=by
 rw[zlN];unfold zgO
 exact ztp (g:=zgx) h.1 (fun x hx=>zH6 (h.2 x hx))
theorem zH4{x:Part}(h:KP KK x):zgw x=some x:=by
 rw[zm4];unfold zh4
 rw[zFK h.2];rfl
theorem zBN{xs:List Part}(h:KL KK xs):zb4 xs=some xs:=by
 rw[zlM];unfold zgN
 exact ztp (g:=zgw) h.1 (fun x hx=>zH4 (h.2 x hx))
theorem zsy{α:Type}{xs:List α}{g:α×α->Option Bool}(hl:xs.length<=KK)(hg:∀x∈xs,g (x,x)=some true):
  zab ((↑(List.length xs):Int) !=(↑(List.length xs):Int)) (some false)
  (zaa
   (zam
    (fun(s:Int) =>
     zab (decide (s<(↑(List.length xs):Int)))
      (gd (decide (0<=s))
       (zaa xs[Int.toNat s]? fun(x:α) =>
        gd (decide (0<=s))
         (zaa xs[Int.toNat s]? fun(x_1:α) =>
          zaa (g (x,x_1)) fun(x:Bool)=>zab (!x) (some (Sum.inr (Sum.inr false))) (gd (zaF (s+1)) (some (Sum.inl (s+1)))))))
      (some (Sum.inr (Sum.inl s))))
    0)
   fun(x:Int⊕Bool)=>zau x (fun(d:Int)=>some true) fun(r:Bool)=>some r)=some true:=by
 have hk:KK=1048576:=rfl
 rw[<-zFO,bne_self_eq_false,zae,ywb]
 refine ztC (fun s:Int=>0<=s) (fun s=>xs.length-s.toNat) (by omega) fun i hi=>?_
 simp only[ywa,ywb,ywc,ywd,ywe,yhw,yhx,yhv,yhy,yhz,yhb,yhc,yhd,yhu,yhe,yhf,yhg,yhh,yhi,yhj,yhk,yhl,yhm,yhn,yho,yhp]
 exact⟨fun hlt=>⟨hi,by omega,hi,by omega,zIa (hg _ (ygh _)) (by simp;omega)⟩,fun _=>trivial⟩
theorem zHb{xs:List (List UInt8)}(h:KS KK xs):zeK (xs,xs)=some true:=by
 rw[zju];unfold zeu;dsimp only
 have:=zsy (xs:=xs) (g:=fun x=>some (x.1==x.2)) h.1 (fun _ _=>by simp)
 exact this
theorem zG9{x:Field}(h:KF KK x):ze5 (x,x)=some true:=by
 rw[zlF];unfold zgG;dsimp only
 rw[zHb h.2.2];simp only[bne_self_eq_false,zae,zac];rfl
theorem zEo{xs:List Field}(h:xs.length<=KK/\∀x∈xs,KF KK x):zfN (xs,xs)=some true:=by
 rw[zkf];unfold zfE;dsimp only
 exact zsy (g:=ze5) h.1 (fun x hx=>zG9 (h.2 x hx))
theorem zHc{x:Typ}(h:KT KK x):zgt (x,x)=some true:=by
 rw[zm1];unfold zh1;dsimp only
 rw[zEo h.2.2];simp only[bne_self_eq_false,zae,zac];rfl
theorem zEp{xs:List Typ}(h:xs.length<=KK/\∀x∈xs,KT KK x):zg4 (xs,xs)=some true:=by
 rw[zlH];unfold zgI;dsimp only
 exact zsy (g:=zgt) h.1 (fun x hx=>zHc (h.2 x hx))
theorem zHa{x:Part}(h:KP KK x):zgs (x,x)=some true:=by
 rw[zm0];unfold zh0;dsimp only
 rw[zEp h.2];simp only[bne_self_eq_false,zae,zac];rfl
theorem zAq{xs:List Part}(h:KL KK xs):ze6 (xs,xs)=some true:=by
 rw[zlG];unfold zgH;dsimp only
 exact zsy (g:=zgs) h.1 (fun x hx=>zHa (h.2 x hx))
theorem zHr{o n:List Part}(ho:KL BIG o)(hn:KL BIG n)(h:KL KK o->KL KK n->∃r,ze3 (o,n)=some r/\zdk (o,n)=some r):zbw (o,n)=some true:=by
 rw[<-zFO]
 rw[zeJ];unfold zbt;dsimp only
 have hk:(KK:Int)=1048576:=rfl
 rw[ywb]
 refine(zBM ho (l:=1048576) (by omega) (by omega)).mono fun x hx=>?_
 obtain⟨h1,h2,h3⟩:=hx
 rw[ywc]
 refine⟨fun _=>ywd.2 rfl,fun hx=>?_⟩
 rw[ywb]
 simp only[yhd]at hx
 refine(zBM hn (l:=x) (by omega) (by omega)).mono fun y hy=>?_
 obtain⟨g1,g2,g3⟩:=hy
 rw[ywc]
 refine⟨fun _=>ywd.2 rfl,fun hy=>?_⟩
 simp only[yhd]at hy
 have k1:=h3 (by omega)
 have k2:=g3 (by omega)
 obtain⟨r,e1,e2⟩:=h k1 k2
 simp only[zBN k1,zBN k2,zAq k1,zAq k2,e1,e2,zac,bne_self_eq_false,zae,Bool.not_true]
 exact ywd.2 rfl
end Go.Fw
namespace Go.Fw
open Go
set_option linter.unusedSimpArgs false
set_option linter.unusedVariables false
theorem zBJ(n a b:Int):zt2 (n,a,b)=some (decide (a<=n)&&decide (n<=b)):=by
 rw[zt3];unfold zt0
 simp only[zCr,zac,ge_iff_le]
 cases decide (a<=n)<;>rfl
theorem zno(n a b:Int):zlB (n,a,b)=some (decide (a<=n)&&decide (n<=b)):=by
 rw[zt1];unfold ztZ
 simp only[zCr,zac,ge_iff_le]
 cases decide (a<=n)<;>rfl
def zEe(i:Nat)(c:UInt8):Bool:=(decide (97<=zaP c)&&decide (zaP c<=122)) ||zaP c==95 ||(decide (0<i)&&decide (48<=zaP c)&&decide (zaP c<=57))
def zwV(s:List UInt8):Bool:=decide (1<=s.length)&&decide (s.length<=9)&&ztW zEe 0 s
theorem zEa(i:Nat):decide ((i:Int)>0)=decide (0<i):=by simp
theorem zEb(i:Nat):((i:Int)==0)= !decide (0<i):=by
 by_cases h:i=0
 ·subst h;rfl
 ·have h1:((i:Int)==0)=false:=by simpa using h
  rw[h1];simp;omega
theorem zGf(n:Nat):decide ((1:Int)<=(n:Int))=decide (1<=n):=by simp;omega
theorem zGg(n:Nat):decide ((n:Int)<=9)=decide (n<=9):=by simp;omega
theorem zwD{s:List UInt8}(hl:s.length<=4611686018427387904):zmU s=some (zwV s):=by
 rw[zpN];unfold zmJ
 rw[zBJ,zac,zGf,zGg]
 unfold zwV
 cases hb:(decide (1<=s.length)&&decide (s.length<=9))with
 | false=>rfl
 | true =>
  simp only[Bool.not_true,zae,Bool.true_and]
  rw[zdt (s0:=(0:Int)) s (fun i=>(i:Int)) (s.length:Int) (fun i c=>bif zEe i c then none else some false) rfl ?_ ?_]
  ·rw[zdx]
   cases ztW zEe 0 s<;>rfl
  ·intro i h
   have h3:=zap h hl
   simp only[zaS h,zaE,zaj h,zaf,zag,zac,zCr,zEa,ge_iff_le,h3]
   generalize s[i]=c
   unfold zEe
   cases decide (97<=zaP c)<;>cases decide (zaP c<=122)<;>cases(zaP c==95)<;>cases decide (0<i)<;>cases decide (48<=zaP c)<;>cases decide (zaP c<=57)<;>rfl
  ·simp only[zaq,zae]
theorem zBT{n:Int}(h1:-9223372036854775808<=n)(h2:n<=9223372036854775807):IntKind.wrap .i64 n=n:=by
 simp only[IntKind.wrap,IntKind.bits,IntKind.signed]
 simp
 omega
theorem zBS(c:UInt8):IntKind.wrap .i64 (zaP c)=zaP c:=by
 have:c.toNat<256:=c.toNat_lt
 exact zBT (by unfold zaP;omega) (by unfold zaP;omega)
theorem zv0{s:List UInt8}(hl:s.length<=4611686018427387904):zic s=some (zwV s):=by
 rw[zmQ];unfold zhU
 rw[zdt (s0:=(0:Int)) s (fun i=>(i:Int)) (s.length:Int) (fun i c=>bif zEe i c then none else some false) rfl ?_ ?_]
 ·rw[zdx]
  simp only[zno,zac,zau,zGf,zGg]
  unfold zwV
  cases ztW zEe 0 s<;>simp[zac]
 ·intro i h
  have h3:=zap h hl
  have h4:(List.map zaP s)[Int.toNat (i:Int)]? =some (zaP s[i]):=by simp[h]
  simp only[List.length_map,zaS h,zaE,h4,zaf,zag,zac,zCr,zEb,ge_iff_le,h3,zno,zBS]
  generalize s[i]=c
  unfold zEe
  cases decide (97<=zaP c)<;>cases decide (zaP c<=122)<;>cases hc:(zaP c==95)<;>cases decide (0<i)<;>cases decide (48<=zaP c)<;>cases decide (zaP c<=57)<;>simp only[bne,hc]<;>rfl
 ·simp only[List.length_map,zaq,zae]
def zsj(s:List UInt8):Bool:=s==[105,110,116] ||s==[116,101,120,116] ||s==[98,111,111,108]
theorem ztj(s:List UInt8):zd8 s=some (zsj s):=by
 rw[zmW];unfold zhY
 unfold zsj
 cases(s==[105,110,116])<;>cases(s==[116,101,120,116])<;>rfl
theorem zqL(f:Field):zbm f=some (zsj f.of):=by
 rw[zgP];unfold zcp
 unfold zsj
 cases(f.of==[105,110,116])<;>cases(f.of==[116,101,120,116])<;>rfl
theorem zCB{xs:List (List UInt8)}{s:List UInt8}(hl:xs.length<=4611686018427387904):zaH (xs,s)=some (ixM (fun x=>s==x) xs):=by
 rw[zci];unfold zaG;dsimp only
 exact ixf (g:=fun x=>some (s==x)) (fun x=>s==x) hl (fun _ _=>rfl)
theorem zp0{xs:List (List UInt8)}{s:List UInt8}(hl:xs.length<=4611686018427387904):zan (xs,s)=some (xs.any fun x=>s==x):=by
 rw[zbQ];unfold zax;dsimp only
 rw[zCB hl,zac,zjz]
def kwL:List (List UInt8):=[[105,110,116],[116,101,120,116],[98,111,111,108],[112,97,114,116],[116,121,112,101],[107,101,121],[102,97,114],[104,105,100,100,101,110],[115,104,97,114,101,100],[110,101,101,100,115]]
def zAF:List UInt8->Bool
 | []=>false
 | c:: _=>zaP c !=95
def nameM(s:List UInt8):Bool:=zwV s&&(decide (s.length<=8)&&(zAF s&&!kwL.any fun x=>s==x))
theorem zD7(n:Nat):decide ((n:Int)<=8)=decide (n<=8):=by simp;omega
theorem zfq{s:List UInt8}(hl:s.length<=4611686018427387904):zfu s=some (nameM s):=by
 rw[zpQ];unfold zmL
 rw[zwD hl,zac,zD7]
 unfold nameM
 cases s with
 | nil=>rfl
 | cons c s =>
  cases zwV (c:: s)with
  | false=>rfl
  | true =>
   simp only[zaf,Int.toNat_zero,List.getElem?_cons_zero,zac,ztj,zAF,zsj]
   simp only[kwL,List.any_cons,List.any_nil,bne]
   cases decide ((c:: s).length<=8)<;>cases(zaP c==95)<;>cases(c:: s==[105,110,116])<;>cases(c:: s==[116,101,120,116])<;>cases(c:: s==[98,111,111,108])<;>try rfl
   cases(c:: s==[112,97,114,116])<;>cases(c:: s==[116,121,112,101])<;>cases(c:: s==[107,101,121])<;>cases(c:: s==[102,97,114])<;>cases(c:: s==[104,105,100,100,101,110])<;>cases(c:: s==[115,104,97,114,101,100])<;>cases(c:: s==[110,101,101,100,115])<;>rfl
theorem zfi{s:List UInt8}(hl:s.length<=4611686018427387904):zcM s=some (nameM s):=by
 rw[zmP];unfold zhT
 rw[zv0 hl,zac,zD7]
 unfold nameM
 cases s with
 | nil=>rfl
 | cons c s =>
  cases zwV (c:: s)with
  | false=>rfl
  | true =>
   have hc:=zp0 (xs:=kwL) (s:=c:: s) (by simp[kwL])
   simp only[kwL]at hc
   simp only[zaf,Int.toNat_zero,List.getElem?_cons_zero,zac,zAF,kwL,hc]
   cases decide ((c:: s).length<=8)<;>cases(zaP c !=95)<;>rfl
theorem ziu{s:List UInt8}(h:nameM s=true):s.length<=8:=by
 unfold nameM at h
 simp only[yhb,yhc]at h
 exact h.2.1
def tyM(p:Part)(n:List UInt8):Option Typ:=p.types.find? fun t=>t.name==n
def fdM(t:Typ)(n:List UInt8):Option Field:=t.fields.find? fun f=>f.name==n
def zhq(p:Part)(n f:List UInt8):Option Field:=(tyM p n).bind fun t=>fdM t f
def ty0:Typ:=⟨[],[],[]⟩
def fd0:Field:=⟨[],[],false,false,false,false,false,[]⟩
theorem zd4{p:Part}{n:List UInt8}(hl:p.types.length<=4611686018427387904):zdQ (p,n)=some (ixM (fun t=>t.name==n) p.types):=by
 rw[zpR];unfold zmM;dsimp only
 exact ixf (g:=fun t:Typ=>some (t.name==n)) (fun t=>t.name==n) hl (fun _ _=>rfl)
theorem zfU{t:Typ}{n:List UInt8}(hl:t.fields.length<=4611686018427387904):zeC (t,n)=some (ixM (fun f=>f.name==n) t.fields):=by
 rw[zoH];unfold zjS;dsimp only
 exact ixf (g:=fun f:Field=>some (f.name==n)) (fun f=>f.name==n) hl (fun _ _=>rfl)
theorem zCw(t:Typ)(n:List UInt8):zca (t,n)=some (t.name==n):=by rw[zhs];unfold zcS;dsimp only
theorem zuu(t:Field)(n:List UInt8):zbH (t,n)=some (t.name==n):=by rw[zhu];unfold zcU;dsimp only
theorem zn5{p:Part}{n:List UInt8}(hl:p.types.length<=4611686018427387904):zaQ (p,n)=some ((tyM p n).getD ty0,(tyM p n).isSome):=by
 rw[zjk];unfold zek;dsimp only
 have h:zcD (p.types,n)=some (ixM (fun t=>t.name==n) p.types):=by
  rw[zg0];unfold zcw;dsimp only
  exact ixf (g:=fun t:Typ=>zca (t,n)) (fun t=>t.name==n) hl (fun t _=>zCw t n)
 rw[h,zac]
 unfold tyM
 rcases zbO (fun t:Typ=>t.name==n) p.types with⟨h1,h2,_⟩|⟨i,hi,h1,h2,_,_⟩
 ·rw[h1,h2];rfl
 ·have h3:decide ((i:Int)<0)=false:=by simp
  rw[h1,h2,h3,zaE,zaj hi];rfl
theorem zpw{t:Typ}{n:List UInt8}(hl:t.fields.length<=4611686018427387904):zbx (t,n)=some ((fdM t n).getD fd0,(fdM t n).isSome):=by
 rw[zjl];unfold zel;dsimp only
 have h:zbn (t.fields,n)=some (ixM (fun t=>t.name==n) t.fields):=by
  rw[zdT];unfold zbR;dsimp only
  exact ixf (g:=fun t:Field=>zbH (t,n)) (fun t=>t.name==n) hl (fun t _=>zuu t n)
 rw[h,zac]
 unfold fdM
 rcases zbO (fun t:Field=>t.name==n) t.fields with⟨h1,h2,_⟩|⟨i,hi,h1,h2,_,_⟩
 ·rw[h1,h2];rfl
 ·have h3:decide ((i:Int)<0)=false:=by simp
  rw[h1,h2,h3,zaE,zaj hi];rfl
end Go.Fw
namespace Go.Fw
open Go
set_option linter.unusedSimpArgs false
set_option linter.unusedVariables false
theorem zr7:∀(x y:List UInt8),(Op.bytesLess x y ||x==y)= !Op.bytesLess y x
 | [],[]=>rfl
 | [],_:: _=>rfl
 | _:: _,[]=>rfl
 | a:: x,b:: y=>by
  have ih:=zr7 x y
  unfold Op.bytesLess
  by_cases h1:a<b
  ·have h2:¬b<a:=fun h=>by have:=UInt8.lt_asymm h1;exact this h
   have h3:¬b=a:=fun h=>by subst h;exact UInt8.lt_irrefl _ h1
   simp[h1,h2,h3]
  ·by_cases h2:b<a
   ·have h3:¬a=b:=fun h=>by subst h;exact UInt8.lt_irrefl _ h2
    simp[h1,h2,h3]
   ·have h3:a=b:=by
     apply UInt8.toNat_inj.1
     rw[UInt8.lt_iff_toNat_lt]at h1 h2
     omega
    subst h3
    simpa[UInt8.lt_irrefl]using ih
def znA(f:Field):Bool:=f.of==[105,110,116]&&(!f.list&&!decide (0<f.needs.length))
def zEM(t:Typ):Bool:=t.key==[] ||match fdM t t.key with
 | none=>false
 | some f=>znA f&&(f.must&&(!f.far&&!f.hidden))
theorem znt{α:Type}(l:List α):decide ((l.length:Int)>0)=decide (0<l.length):=by simp
theorem zDF{α:Type}(l:List α):((l.length:Int)==0)= !decide (0<l.length):=zEb _
theorem znx(f:Field):zaZ f=some (decide (0<f.needs.length)):=by
 rw[zhr];unfold zcR
 rw[znt]
theorem zx8(f:Field):zbi f=some (znA f):=by
 rw[zfH];unfold zbW
 rw[znx]
 unfold znA
 cases(f.of==[105,110,116])<;>cases f.list<;>rfl
theorem zzb{t:Typ}(hl:t.fields.length<=4611686018427387904):zpO t=some (zEM t):=by
 rw[zrI];unfold zpI
 unfold zEM
 cases hk:(t.key==[])with
 | true=>rfl
 | false =>
  rw[zae,zfU hl,zac]
  unfold fdM
  rcases zbO (fun f:Field=>f.name==t.key) t.fields with⟨h1,h2,_⟩|⟨i,hi,h1,h2,_,_⟩
  ·rw[h1,h2];rfl
  ·have h3:decide ((i:Int)<0)=false:=by simp
   rw[h1,h2,h3,zaE,zaj hi]
   simp only[zae,zag,zac,znA,zDF]
   generalize t.fields[i]=f
   cases(f.of==[105,110,116])<;>cases f.list<;>cases f.must<;>cases f.far<;>cases f.hidden<;>cases decide (0<f.needs.length)<;>rfl
theorem zzT{t:Typ}(hl:t.fields.length<=4611686018427387904):zc0 t=some (!zEM t):=by
 rw[zht];unfold zcT
 unfold zEM
 cases hk:(t.key==[])with
 | true=>rfl
 | false =>
  rw[zae,zpw hl,zac]
  cases fdM t t.key with
  | none=>rfl
  | some f =>
   simp only[Option.getD_some,Option.isSome_some,Bool.not_true,zae,zx8,zac]
   cases znA f<;>cases f.must<;>cases f.far<;>cases f.hidden<;>rfl
def zwi(t:Typ)(f:Field)(i:Nat)(n:List UInt8):Bool:=match fdM t n with
 | none=>false
 | some g=>znA g&&(i==0 ||match f.needs[i-1]? with
  | some m=>Op.bytesLess m n
  | none=>true)
def zy0(t:Typ)(f:Field):Bool:=(!decide (0<f.needs.length) ||(f.of==[105,110,116]&&(!f.list&&(!f.far&&(!f.must&&(!(t.key==[])&&!(f.name==t.key)))))))&&ztW (zwi t f) 0 f.needs
def zlW(t:Typ)(f:Field):Bool:=zy0 t f&&!(f.far&&f.shared)
theorem zxi(i:Nat):decide ((i:Int)>0)= !(i==0):=by
 cases i<;>simp
theorem zu7{t:Typ}{f:Field}(hl:t.fields.length<=4611686018427387904)(hf:f.needs.length<=4611686018427387904):zka (t,f)=some (zy0 t f):=by
 rw[zoI];unfold zjT;dsimp only
 unfold zy0
 have h0:(zab (decide ((↑(List.length f.needs):Int)>0))
   (zab (f.of !=[105,110,116]) (some true)
    (zab f.list (some true) (zab f.far (some true) (zab f.must (some true) (zab (t.key==[]) (some true) (some (f.name==t.key)))))))
   (some false))=some (!(!decide (0<f.needs.length) ||(f.of==[105,110,116]&&(!f.list&&(!f.far&&(!f.must&&(!(t.key==[])&&!(f.name==t.key)))))))):=by
  rw[znt]
  simp only[bne]
  cases decide (0<f.needs.length)<;>cases(f.of==[105,110,116])<;>cases f.list<;>cases f.far<;>cases f.must<;>cases(t.key==[])<;>cases(f.name==t.key)<;>rfl
 rw[h0,zac]
 cases(!decide (0<f.needs.length) ||(f.of==[105,110,116]&&(!f.list&&(!f.far&&(!f.must&&(!(t.key==[])&&!(f.name==t.key)))))))with
 | false=>rfl
 | true =>
  simp only[Bool.not_true,zae,Bool.true_and]
  rw[zdt (s0:=(0:Int)) f.needs (fun i=>(i:Int)) (f.needs.length:Int) (fun i c=>bif zwi t f i c then none else some false) rfl ?_ ?_]
  ·rw[zdx]
   cases ztW (zwi t f) 0 f.needs<;>rfl
  ·intro i h
   have h3:=zap h hf
   simp only[zaS h,zaE,zaj h,zaf,zag,zac,zfU hl,h3]
   unfold zwi fdM
   rcases zbO (fun g:Field=>g.name==f.needs[i]) t.fields with⟨h1,h2,_⟩|⟨k,hk,h1,h2,_,_⟩
   ·rw[h1,h2];rfl
   ·have h4:decide ((k:Int)<0)=false:=by simp
    rw[h1,h2,h4]
    simp only[zaE,zaj hk,zae,zag,zac,znt,znA,zxi i]
    generalize t.fields[k]=g
    cases i with
    | zero =>
     simp only[bne]
     cases decide (0<g.needs.length)<;>cases(g.of==[105,110,116])<;>cases g.list<;>rfl
    | succ i =>
     have h5:(((i+1:Nat):Int)-1)=(i:Int):=by omega
     have h6:zaF (i:Int)=true:=zi5 (by omega) (by omega)
     have h7:i<f.needs.length:=by omega
     simp only[h5,h6,zaE,zaj h7,zag,zac,Nat.add_sub_cancel,ygb h7,bne]
     cases decide (0<g.needs.length)<;>cases(g.of==[105,110,116])<;>cases g.list<;>cases Op.bytesLess f.needs[i] f.needs[i+1]<;>rfl
  ·simp only[zaq,zae]
theorem zyp{t:Typ}{f:Field}(hl:t.fields.length<=4611686018427387904)(hf:f.needs.length<=4611686018427387904):zbS (t,f)=some (!zlW t f):=by
 rw[zgS];unfold zcr;dsimp only
 unfold zlW zy0
 cases hfs:(f.far&&f.shared)with
 | true =>
  simp only[yhb]at hfs
  simp only[hfs.1,hfs.2,zaf,zac,Bool.not_true,Bool.and_false,Bool.not_false]
 | false =>
  have h0:zab f.far (some f.shared) (some false)=some false:=by
   cases hf1:f.far with
   | false=>rfl
   | true=>cases hf2:f.shared with
    | false=>rfl
    | true=>simp[hf1,hf2]at hfs
  rw[h0,zac,zae,znx,zac]
  cases hn:f.needs with
  | nil=>rfl
  | cons n0 ns =>
   rw[<-hn]
   have hpos:decide (0<f.needs.length)=true:=by simp[hn]
   rw[hpos]
   have h1:(zab (f.of !=[105,110,116]) (some true)
       (zab f.list (some true) (zab f.far (some true) (zab f.must (some true) (zab (f.name==t.key) (some true) (some (t.key==[])))))))=some (!(f.of==[105,110,116]&&(!f.list&&(!f.far&&(!f.must&&(!(t.key==[])&&!(f.name==t.key))))))):=by
    simp only[bne]
    cases(f.of==[105,110,116])<;>cases f.list<;>cases f.far<;>cases f.must<;>cases(t.key==[])<;>cases(f.name==t.key)<;>rfl
   rw[h1,zac]
   simp only[Bool.not_true,zae,Bool.false_or]
   cases(f.of==[105,110,116]&&(!f.list&&(!f.far&&(!f.must&&(!(t.key==[])&&!(f.name==t.key))))))with
   | false=>rfl
   | true =>
    simp only[Bool.not_true,zae,Bool.true_and]
    rw[zdt (s0:=(0:Int)) f.needs (fun i=>(i:Int)) (f.needs.length:Int) (fun i c=>bif zwi t f i c then none else some true) rfl ?_ ?_]
    ·rw[zdx]
     cases ztW (zwi t f) 0 f.needs<;>rfl
    ·intro i h
     have h3:=zap h hf
     simp only[zaS h,zaE,zaj h,zaf,zag,zac,zpw hl,h3]
     unfold zwi
     cases fdM t f.needs[i]with
     | none=>rfl
     | some g =>
      simp only[Option.getD_some,Option.isSome_some,Bool.not_true,zae,zx8,zac,zxi i]
      cases i with
      | zero=>cases znA g<;>rfl
      | succ i =>
       have h5:(((i+1:Nat):Int)-1)=(i:Int):=by omega
       have h6:zaF (i:Int)=true:=zi5 (by omega) (by omega)
       have h7:i<f.needs.length:=by omega
       simp only[h5,h6,zaE,zaj h7,zag,zac,Nat.add_sub_cancel,ygb h7,zr7]
       cases znA g<;>cases Op.bytesLess f.needs[i] f.needs[i+1]<;>rfl
    ·simp only[zaq,zae]
end Go.Fw
namespace Go.Fw
open Go
set_option linter.unusedSimpArgs false
set_option linter.unusedVariables false
def zqD(f:Field):Bool:=nameM f.name&&((zsj f.of ||nameM f.of)&&f.needs.all nameM)
def lineM(t:Typ):Bool:=nameM t.name&&((t.key==[] ||nameM t.key)&&(decide (0<t.fields.length)&&(decide (t.fields.length<=8)&&t.fields.all zqD)))
def zzs(t:Typ):Bool:=ztW (fun i f=>ixM (fun g:Field=>g.name==f.name) t.fields==(i:Int)) 0 t.fields
def knownM(p:Part)(f:Field):Bool:=zsj f.of ||(tyM p f.of).isSome
def zdO(p:Part)(i:Nat)(t:Typ):Int:=
 bif !lineM t then 1 else bif !(ixM (fun u:Typ=>u.name==t.name) p.types==(i:Int))then 2 else bif !zzs t then 2 else bif !t.fields.all (knownM p)then 3 else bif !zEM t then 4 else bif !t.fields.all (zlW t)then 5 else 0
theorem zD9(n:Nat):decide ((n:Int)>8)= !decide (n<=8):=by
 by_cases h:n<=8
 ·simp[h];omega
 ·simp[h];omega
theorem zCe(n:Nat):decide ((n:Int)<=8)=decide (n<=8):=zD7 n
theorem zDu(n:Nat):decide ((1:Int)<=(n:Int))=decide (0<n):=by simp;omega
theorem zvu{s:List UInt8}(h:s.length<=KK):zbj s=some (!nameM s):=by
 rw[zfJ];unfold zbY
 rw[zfi (up h)];rfl
theorem zvv{f:Field}(h:KF KK f):zbk f=some (!zqD f):=by
 rw[zfK];unfold zbZ
 have h1:za6 f.needs=some (!f.needs.all nameM):=by
  rw[zeY];unfold zbD
  have h2:zbI f.needs=some (ixM (fun s=>!nameM s) f.needs):=by
   rw[ze0];unfold zbF
   exact ixf (g:=zbj) _ (up h.2.2.1) (fun s hs=>zvu (h.2.2.2 s hs))
  rw[h2,zac,zjz,List.not_all_eq_any_not]
 rw[zfi (up h.1),h1,zfi (up h.2.1),zqL]
 unfold zqD
 cases nameM f.name<;>cases nameM f.of<;>cases zsj f.of<;>cases f.needs.all nameM<;>rfl
theorem zyo{t:Typ}(h:KT KK t):zcA t=some (!lineM t):=by
 rw[zgR];unfold zcq
 have h1:za7 t.fields=some (!t.fields.all zqD):=by
  rw[zeZ];unfold zbE
  have h2:zbJ t.fields=some (ixM (fun s=>!zqD s) t.fields):=by
   rw[ze1];unfold zbG
   exact ixf (g:=zbk) _ (up h.2.2.1) (fun s hs=>zvv (h.2.2.2 s hs))
  rw[h2,zac,zjz,List.not_all_eq_any_not]
 rw[zfi (up h.1),zfi (up h.2.1),h1,zno,zDu,zCe]
 unfold lineM
 simp only[bne]
 cases nameM t.name<;>cases(t.key==[])<;>cases nameM t.key<;>cases decide (0<t.fields.length)<;>cases decide (t.fields.length<=8)<;>cases t.fields.all zqD<;>rfl
theorem zCP{t:Typ}(h:KT KK t):zdJ t=some (t.fields.map (·.name)):=by
 rw[zia];unfold zdE
 have hL:LIM=1099511627776:=rfl
 have hk:KK=1048576:=rfl
 have hl:=h.2.2.1
 rw[zeV (s0:=((0:Int),([]:List (List UInt8)))) t.fields.length (fun i=>((i:Int),(t.fields.take i).map (·.name))) ((t.fields.length:Int),t.fields.map (·.name)) rfl ?_ ?_]
 ·intro i hi
  have h3:=zap hi (up hl)
  have h4:decide (List.length ((t.fields.take i).map (·.name))+List.length [t.fields[i].name]<=LIM)=true:=by
   simp;omega
  simp only[zaS hi,zaE,zaj hi,zaf,zag,zac,h3,h4]
  rw[List.take_succ_eq_append_getElem hi,List.map_append]
  rfl
 ·simp only[zaq,zae,List.take_length]
theorem zDf{l:List (List UInt8)}(hl:l.length<=KK):zj7 l=some (!ztW (fun i s=>!(l.take i).any fun x=>s==x) 0 l):=by
 rw[zoF];unfold zjQ
 rw[zdt (s0:=(0:Int)) l (fun i=>(i:Int)) (l.length:Int) (fun i s=>bif (!(l.take i).any fun x=>s==x)then none else some true) rfl ?_ ?_]
 ·rw[zdx]
  cases ztW (fun i s=>!(l.take i).any fun x=>s==x) 0 l<;>rfl
 ·intro i h
  have h3:=zap h (up hl)
  have h4:decide ((i:Int)<=(l.length:Int))=true:=by simp;omega
  have h5:(List.take (Int.toNat (i:Int)-Int.toNat 0) (List.drop (Int.toNat 0) l))=l.take i:=by simp
  simp only[zaS h,zaE,zaj h,zaf,zag,zac,h3,h4,h5,decide_true,Bool.and_self,Int.le_refl]
  rw[zp0 (by rw[List.length_take];exact Nat.le_trans (Nat.min_le_right _ _) (up hl)),zac]
  cases(l.take i).any fun x=>l[i]==x<;>rfl
 ·simp only[zaq,zae]
theorem zwI{t:Typ}:ztW (fun i s=>!((t.fields.map (·.name)).take i).any fun x=>s==x) 0 (t.fields.map (·.name))=zzs t:=by
 unfold zzs
 rw[Bool.eq_iff_iff,zsn,zsn]
 have hx:∀(j:Nat)(hj:j<t.fields.length),((t.fields.map (·.name)).take j).any (fun x=>t.fields[j].name==x)=(t.fields.take j).any fun g=>g.name==t.fields[j].name:=by
  intro j hj
  rw[<-List.map_take,List.any_map]
  congr 1
  funext g
  exact BEq.comm
 constructor
 ·intro h j hj
  have:=h j (by simpa using hj)
  rw[List.getElem_map,Nat.zero_add,hx j hj]at this
  rw[Nat.zero_add,zAI hj (by simp)]
  exact this
 ·intro h j hj
  have hj':j<t.fields.length:=by simpa using hj
  have:=h j hj'
  rw[Nat.zero_add,zAI hj' (by simp)]at this
  rw[List.getElem_map,Nat.zero_add,hx j hj']
  exact this
theorem zyj(p:Part)(n:List UInt8):(tyM p n).isSome=p.types.any fun t=>t.name==n:=by
 unfold tyM
 rcases zbO (fun t:Typ=>t.name==n) p.types with⟨_,h2,h3⟩|⟨i,hi,_,h2,_,h3⟩
 ·rw[h2,h3];rfl
 ·rw[h2,h3];rfl
def isQ(f:Field):Bool:=f.of==[113,117,101,114,121]
theorem zva{p:Part}{i:Nat}(hp:KP KK p)(hi:i<p.types.length):zb0 (p,(i:Int))=some (bif !(zdO p i p.types[i]==0)then zdO p i p.types[i]else bif p.types[i].fields.any isQ then 7 else 0):=by
 rw[zfI];unfold zbX;dsimp only
 have ht:=hp.2.2 _ (ygh hi)
 have hT:=up ht.2.2.1
 have h4:decide ((i:Int)<=(p.types.length:Int))=true:=by simp;omega
 have h5:(List.take (Int.toNat (i:Int)-Int.toNat 0) (List.drop (Int.toNat 0) p.types))=p.types.take i:=by simp
 simp only[zaE,zaj hi,zag,zac,h4,h5,decide_true,Bool.and_self,Int.le_refl]
 have h6:zaQ (⟨[],p.types.take i⟩,p.types[i].name)=some ((tyM ⟨[],p.types.take i⟩ p.types[i].name).getD ty0,!(ixM (fun u:Typ=>u.name==p.types[i].name) p.types==(i:Int))):=by
  rw[zn5 (by show(p.types.take i).length<=_;rw[List.length_take];exact Nat.le_trans (Nat.min_le_right _ _) (up hp.2.1)),zyj,zAI hi (by simp),Bool.not_not]
 have k1:zbd (p.types[i].fields,p)=some (!p.types[i].fields.all (knownM p)):=by
  rw[zd9];unfold za8;dsimp only
  have h2:zbf (p.types[i].fields,p)=some (ixM (fun f=>!knownM p f) p.types[i].fields):=by
   rw[zeb];unfold zba;dsimp only
   refine ixf (g:=fun f=>zbu (f,p)) _ hT (fun f hf=>?_)
   rw[zey];unfold zbr;dsimp only
   rw[zn5 (up hp.2.1),zqL]
   unfold knownM
   cases zsj f.of<;>cases(tyM p f.of).isSome<;>rfl
  rw[h2,zac,zjz,List.not_all_eq_any_not]
 have k2:zcd (p.types[i].fields,p.types[i])=some (!p.types[i].fields.all (zlW p.types[i])):=by
  rw[zgc];unfold zb6;dsimp only
  have h2:zcf (p.types[i].fields,p.types[i])=some (ixM (fun f=>!zlW p.types[i] f) p.types[i].fields):=by
   rw[zge];unfold zb8;dsimp only
   exact ixf (g:=fun f=>zbS (p.types[i],f)) _ hT (fun f hf=>zyp hT (up (ht.2.2.2 f hf).2.2.1))
  rw[h2,zac,zjz,List.not_all_eq_any_not]
 have k3:zbe p.types[i].fields=some (p.types[i].fields.any isQ):=by
  rw[zea];unfold za9
  have h2:zbg p.types[i].fields=some (ixM isQ p.types[i].fields):=by
   rw[zec];unfold zbb
   refine ixf (g:=zbv) _ hT (fun f hf=>?_)
   rw[zez];unfold zbs
   rfl
  rw[h2,zac,zjz]
 rw[h6]
 simp only[zac,zyo ht,zCP ht,zDf (show(p.types[i].fields.map (·.name)).length<=KK by rw[List.length_map];exact ht.2.2.1),zwI,k1,k2,k3,zzT hT]
 unfold zdO
 cases lineM p.types[i]<;>cases(ixM (fun u:Typ=>u.name==p.types[i].name) p.types==(i:Int))<;>cases zzs p.types[i]<;>cases p.types[i].fields.all (knownM p)<;>cases zEM p.types[i]<;>cases p.types[i].fields.all (zlW p.types[i])<;>cases p.types[i].fields.any isQ<;>rfl
end Go.Fw
namespace Go.Fw
open Go
set_option linter.unusedSimpArgs false
set_option linter.unusedVariables false
def ndM(l:List (List UInt8)):List UInt8:=l.flatMap fun n=>32:: n
def flM(f:Field):Nat->List UInt8
 | 0=>[]
 | 1=>bif f.far then[32,102,97,114]else[]
 | 2=>(bif f.far then[32,102,97,114]else[])++(bif f.hidden then[32,104,105,100,100,101,110]else[])
 | _=>(bif f.far then[32,102,97,114]else[])++(bif f.hidden then[32,104,105,100,100,101,110]else[])++(bif f.shared then[32,115,104,97,114,101,100]else[])
def ofM(f:Field):List UInt8:=(bif f.list then[91]++f.of++[93]else f.of)++(bif f.must then[33]else[])
def hdM(f:Field):List UInt8:=[32,32]++f.name++[32]++ofM f
def nsM(f:Field):List UInt8:=bif decide (0<f.needs.length)then[32,110,101,101,100,115]++ndM f.needs else[]
def lnM(f:Field):List UInt8:=hdM f++flM f 3++nsM f++[10]
theorem zqJ{l:List (List UInt8)}(h:∀s∈l,s.length<=8):(ndM l).length<=9*l.length:=by
 induction l with
 | nil=>simp[ndM]
 | cons x l ih =>
  have h1:=h x (by simp)
  have h2:=ih fun s hs=>h s (by simp[hs])
  unfold ndM at h2|-
  simp only[List.flatMap_cons,yhr,yhs]
  omega
theorem zkr(f:Field)(i:Nat):(flM f i).length<=18:=by
 unfold flM
 split<;>cases f.far<;>cases f.hidden<;>cases f.shared<;>simp
theorem zwm{f:Field}(h:f.of.length<=8):(ofM f).length<=11:=by
 unfold ofM
 cases f.list<;>cases f.must<;>simp<;>omega
theorem zvX{f:Field}(h:f.of.length<=8)(h2:f.name.length<=8):(hdM f).length<=22:=by
 have:=zwm h
 unfold hdM
 simp only[yhr,yhs,yht]
 omega
theorem zC5{s:List UInt8}(h:zsj s=true):s.length<=4:=by
 unfold zsj at h
 simp only[Bool.or_eq_true,yhe]at h
 rcases h with(h|h)|h<;>subst h<;>simp
structure Ln (f:Field):Prop where
 name:f.name.length<=8
 of:f.of.length<=8
 need:∀s∈f.needs,s.length<=8
 needs:f.needs.length<=1048576
theorem Ln.mk'{f:Field}(h:KF KK f)(hl:zqD f=true):Ln f:=by
 unfold zqD at hl
 simp only[yhb,Bool.or_eq_true,List.all_eq_true]at hl
 refine⟨ziu hl.1,?_,fun s hs=>ziu (hl.2.2 s hs),h.2.2.1⟩
 rcases hl.2.1 with h1|h1
 ·exact Nat.le_trans (zC5 h1) (by decide)
 ·exact ziu h1
theorem zwg{f:Field}(h:Ln f):(lnM f).length<=9500000:=by
 have h1:=zvX h.of h.name
 have h2:=zkr f 3
 have h3:=zqJ h.need
 have h4:=h.needs
 unfold lnM nsM
 cases decide (0<f.needs.length)<;>simp only[cond_true,cond_false,yhr,yhs,yht]<;>omega
theorem big{n:Nat}(h:n<=9000000000):decide (n<=BIG)=true:=by
 have:BIG=9223372036854775807:=rfl
 simp;omega
theorem zFH{l:List (List UInt8)}{i:Nat}(h:i<l.length):ndM (l.take (i+1))=ndM (l.take i)++[32]++l[i]:=by
 unfold ndM
 rw[List.take_succ_eq_append_getElem h,List.flatMap_append]
 simp
theorem zyZ{l:List (List UInt8)}(h:∀s∈l,s.length<=8)(h2:l.length<=1048576)(i:Nat):(ndM (l.take i)).length<=9437184:=by
 have:=zqJ (l:=l.take i) fun s hs=>h s (List.mem_of_mem_take hs)
 have h3:(l.take i).length<=l.length:=by rw[List.length_take];exact Nat.min_le_right _ _
 omega
theorem zwB{f:Field}(h:Ln f):zmV f=some (lnM f):=by
 rw[zpP];unfold zmK
 show _=some (hdM f++flM f 3++nsM f++[10])
 obtain⟨hn,ho,hs,hl⟩:=h
 have k1:(zab f.list (gd (decide (List.length [91]+List.length f.of<=BIG)) (gd (decide (List.length ([91]++f.of)+List.length [93]<=BIG)) (some ([91]++f.of++[93])))) (some f.of))=some (bif f.list then[91]++f.of++[93]else f.of):=by
  rw[big (n:=List.length [91]+List.length f.of) (by simp;omega),big (n:=List.length ([91]++f.of)+List.length [93]) (by simp;omega)]
  cases f.list<;>rfl
 have l1:(bif f.list then[91]++f.of++[93]else f.of).length<=10:=by cases f.list<;>simp<;>omega
 rw[k1,zac]
 have k2:(zab f.must (gd (decide (List.length (bif f.list then[91]++f.of++[93]else f.of)+List.length [33]<=BIG)) (some ((bif f.list then[91]++f.of++[93]else f.of)++[33]))) (some (bif f.list then[91]++f.of++[93]else f.of)))=some (ofM f):=by
  rw[big (n:=List.length (bif f.list then[91]++f.of++[93]else f.of)+List.length [33]) (by simp only[yhs,yht];omega)]
  unfold ofM
  cases f.must<;>simp[zab,gd]
 rw[k2,zac]
 have l2:=zwm ho
 rw[big (n:=List.length [32,32]+List.length f.name) (by simp;omega),big (n:=List.length ([32,32]++f.name)+List.length [32]) (by simp;omega),big (n:=List.length ([32,32]++f.name++[32])+List.length (ofM f)) (by simp only[yhr,yhs,yht];omega)]
 simp only[zag]
 have e1:[32,32]++f.name++[32]++ofM f=hdM f:=rfl
 rw[e1]
 have l3:=zvX ho hn
 generalize hdM f=x at *
 have k3:(zab f.far (gd (decide (List.length x+List.length [32,102,97,114]<=BIG)) (some (x++[32,102,97,114]))) (some x))=some (x++flM f 1):=by
  rw[big (n:=List.length x+List.length [32,102,97,114]) (by simp only[yhs,yht];omega)]
  unfold flM
  cases f.far<;>simp[zab,gd]
 rw[k3,zac]
 have l4:=zkr f 1
 have k4:(zab f.hidden (gd (decide (List.length (x++flM f 1)+List.length [32,104,105,100,100,101,110]<=BIG)) (some (x++flM f 1++[32,104,105,100,100,101,110]))) (some (x++flM f 1)))=some (x++flM f 2):=by
  rw[big (n:=List.length (x++flM f 1)+List.length [32,104,105,100,100,101,110]) (by simp only[yhr,yhs,yht];omega)]
  unfold flM
  cases f.hidden<;>simp[zab,gd]
 rw[k4,zac]
 have l5:=zkr f 2
 have k5:(zab f.shared (gd (decide (List.length (x++flM f 2)+List.length [32,115,104,97,114,101,100]<=BIG)) (some (x++flM f 2++[32,115,104,97,114,101,100]))) (some (x++flM f 2)))=some (x++flM f 3):=by
  rw[big (n:=List.length (x++flM f 2)+List.length [32,115,104,97,114,101,100]) (by simp only[yhr,yhs,yht];omega)]
  unfold flM
  cases f.shared<;>simp[zab,gd]
 rw[k5,zac]
 have l6:=zkr f 3
 have l7:(x++flM f 3).length<=40:=by rw[yhr];omega
 generalize hy:x++flM f 3=y at *
 have k6:(zab (decide ((↑(List.length f.needs):Int)>0)) (gd (decide (List.length y+List.length [32,110,101,101,100,115]<=BIG)) (some (y++[32,110,101,101,100,115]))) (some y))=some (y++bif decide (0<f.needs.length)then[32,110,101,101,100,115]else[]):=by
  rw[big (n:=List.length y+List.length [32,110,101,101,100,115]) (by simp only[yhs,yht];omega),znt]
  cases decide (0<f.needs.length)<;>simp[zab,gd]
 rw[k6,zac]
 have l8:(y++bif decide (0<f.needs.length)then[32,110,101,101,100,115]else[]).length<=50:=by cases decide (0<f.needs.length)<;>simp<;>omega
 have e2:y++nsM f++[10]=(y++bif decide (0<f.needs.length)then[32,110,101,101,100,115]else[])++ndM f.needs++[10]:=by
  unfold nsM
  cases hd:decide (0<f.needs.length)with
  | true=>simp
  | false =>
   have:f.needs=[]:=by
    cases hf:f.needs with
    | nil=>rfl
    | cons a b=>rw[hf]at hd;simp at hd
   simp[this,ndM]
 rw[e2]
 generalize(y++bif decide (0<f.needs.length)then[32,110,101,101,100,115]else[])=z at *
 have l9:=fun i=>zyZ hs hl i
 rw[zeV (s0:=(z,(0:Int))) f.needs.length (fun i=>(z++ndM (f.needs.take i),(i:Int))) (z++ndM f.needs,(f.needs.length:Int)) (by simp[ndM]) ?_ ?_]
 ·dsimp only
  have l10:=zqJ hs
  rw[big (n:=(z++ndM f.needs).length+List.length [10]) (by simp only[yhr,yhs,yht];omega)]
  rfl
 ·intro i hi
  have l11:=l9 i
  have l12:=hs _ (ygh hi)
  have h3:=zap hi (up hl)
  have g1:=big (n:=List.length (z++ndM (f.needs.take i))+List.length [32]) (by simp only[yhr,yhs,yht];omega)
  have g2:=big (n:=List.length (z++ndM (f.needs.take i)++[32])+List.length f.needs[i]) (by simp only[yhr,yhs,yht];omega)
  simp only[zaS hi,zaE,zaj hi,zaf,zag,zac,h3,g1,g2]
  rw[zFH hi]
  simp only[List.append_assoc]
  rfl
 ·simp only[zaq,zae,List.take_length]
theorem zEG{l:List (List UInt8)}(h:decide (0<l.length)=true):32:: Lib.join l [32]=ndM l:=by
 cases l with
 | nil=>simp at h
 | cons x r =>
  rw[Lib.join_cons]
  unfold Lib.joinTail ndM
  rw[List.flatMap_cons]
  simp[List.flatMap]
theorem zvZ{f:Field}(h:Ln f):zdH f=some (lnM f):=by
 rw[zh6];unfold zdA
 show _=some (hdM f++flM f 3++nsM f++[10])
 obtain⟨hn,ho,hs,hl⟩:=h
 have k1:(zab f.list (gd (decide (List.length [91]+List.length f.of<=BIG)) (gd (decide (List.length ([91]++f.of)+List.length [93]<=BIG)) (some ([91]++f.of++[93])))) (some f.of))=some (bif f.list then[91]++f.of++[93]else f.of):=by
  rw[big (n:=List.length [91]+List.length f.of) (by simp;omega),big (n:=List.length ([91]++f.of)+List.length [93]) (by simp;omega)]
  cases f.list<;>rfl
 have l1:(bif f.list then[91]++f.of++[93]else f.of).length<=10:=by cases f.list<;>simp<;>omega
 rw[k1,zac]
 have k2:(zab f.must (gd (decide (List.length (bif f.list then[91]++f.of++[93]else f.of)+List.length [33]<=BIG)) (some ((bif f.list then[91]++f.of++[93]else f.of)++[33]))) (some (bif f.list then[91]++f.of++[93]else f.of)))=some (ofM f):=by
  rw[big (n:=List.length (bif f.list then[91]++f.of++[93]else f.of)+List.length [33]) (by simp only[yhs,yht];omega)]
  unfold ofM
  cases f.must<;>simp[zab,gd]
 rw[k2,zac]
 have l2:=zwm ho
 rw[big (n:=List.length [32,32]+List.length f.name) (by simp;omega),big (n:=List.length ([32,32]++f.name)+List.length [32]) (by simp;omega),big (n:=List.length ([32,32]++f.name++[32])+List.length (ofM f)) (by simp only[yhr,yhs,yht];omega)]
 simp only[zag]
 have e1:[32,32]++f.name++[32]++ofM f=hdM f:=rfl
 rw[e1]
 have l3:=zvX ho hn
 generalize hdM f=x at *
 rw[zeV (s0:=(x,(0:Int))) 3 (fun i=>(x++flM f i,(i:Int))) (x++flM f 3,(3:Int)) (by simp[flM]) ?_ ?_]
 ·dsimp only
  have l6:=zkr f 3
  have l7:(x++flM f 3).length<=40:=by rw[yhr];omega
  generalize x++flM f 3=y at *
  rw[znx,zac]
  have l8:(nsM f).length<=9437200:=by
   have:=zqJ hs
   unfold nsM
   cases decide (0<f.needs.length)<;>simp<;>omega
  have k3:(zab (decide (0<f.needs.length)) (zaa (zdL (f.needs,[32])) fun(x_2:List UInt8) =>
           gd (decide (List.length [32,110,101,101,100,115,32]+List.length x_2<=BIG))
            (gd (decide (List.length y+List.length ([32,110,101,101,100,115,32]++x_2)<=BIG))
             (some (y++([32,110,101,101,100,115,32]++x_2))))) (some y))=some (y++nsM f):=by
   cases hd:decide (0<f.needs.length)with
   | false=>simp[zab,nsM,hd]
   | true =>
    have hj:=zEG hd
    have l9:=zqJ hs
    have l10:(Lib.join f.needs [32]).length+1=(ndM f.needs).length:=by rw[<-hj];simp
    have l11:decide (f.needs.length<=140737488355328)=true:=by simp;omega
    have l12:decide ((Lib.join f.needs [32]).length<=140737488355328)=true:=by simp;omega
    have hJ:zdL (f.needs,[32])=some (Lib.join f.needs [32]):=by
     rw[zij]
     unfold zft zCD
     dsimp only
     rw[l11,l12];rfl
    rw[hJ,zac,zaf,big (n:=List.length [32,110,101,101,100,115,32]+List.length (Lib.join f.needs [32])) (by simp only[yhs,yht];omega),
     big (n:=List.length y+List.length ([32,110,101,101,100,115,32]++Lib.join f.needs [32])) (by simp only[yhr,yhs,yht];omega)]
    simp only[zag,nsM,hd,cond_true]
    rw[<-hj]
    simp
  rw[k3,zac,big (n:=(y++nsM f).length+List.length [10]) (by simp only[yhr,yhs,yht];omega)]
  rfl
 ·intro i hi
  have l4:=zkr f 0
  have l5:=zkr f 1
  have l6:=zkr f 2
  rcases i with _|_|_|i
  ·have g:=big (n:=List.length (x++flM f 0)+List.length [32,102,97,114]) (by simp only[yhr,yhs,yht];omega)
   simp[flM]at g
   simp only[Nat.zero_add,Nat.reduceAdd,flM]
   cases f.far<;>simp[zab,gd,zaa,zaF,g]
  ·have g:=big (n:=List.length (x++flM f 1)+List.length [32,104,105,100,100,101,110]) (by simp only[yhr,yhs,yht];omega)
   simp[flM]at g
   simp only[Nat.zero_add,Nat.reduceAdd,flM]
   cases f.hidden<;>simp[zab,gd,zaa,zaF,g]
  ·have g:=big (n:=List.length (x++flM f 2)+List.length [32,115,104,97,114,101,100]) (by simp only[yhr,yhs,yht];omega)
   simp[flM]at g
   simp only[Nat.zero_add,Nat.reduceAdd,flM]
   cases f.shared<;>simp[zab,gd,zaa,zaF,g]
  ·omega
 ·rfl
end Go.Fw
namespace Go.Fw
open Go
set_option linter.unusedSimpArgs false
set_option linter.unusedVariables false
def txT(t:Typ):List UInt8:=[116,121,112,101,32]++t.name++(bif t.key==[]then[]else[32,107,101,121,32]++t.key)++[10]++t.fields.flatMap lnM
def txM(p:Part):List UInt8:=[112,97,114,116,32]++p.name++[10]++p.types.flatMap txT
structure Wt (t:Typ):Prop where
 name:t.name.length<=8
 key:t.key.length<=8
 fields:t.fields.length<=8
 field:∀f∈t.fields,Ln f
structure Wr (p:Part):Prop where
 name:p.name.length<=8
 types:p.types.length<=5
 type:∀t∈p.types,Wt t
theorem Wt.mk'{t:Typ}(h:KT KK t)(hl:lineM t=true):Wt t:=by
 unfold lineM at hl
 simp only[yhb,Bool.or_eq_true,List.all_eq_true,yhc,yhe]at hl
 refine⟨ziu hl.1,?_,hl.2.2.2.1,fun f hf=>.mk' (h.2.2.2 f hf) (hl.2.2.2.2 f hf)⟩
 rcases hl.2.1 with h1|h1
 ·rw[h1];simp
 ·exact ziu h1
theorem zHg{α:Type}{l:List α}{g:α->List UInt8}{c:Nat}(h:∀x∈l,(g x).length<=c):(l.flatMap g).length<=c*l.length:=by
 induction l with
 | nil=>simp
 | cons x l ih =>
  have h1:=h x (by simp)
  have h2:=ih fun s hs=>h s (by simp[hs])
  simp only[List.flatMap_cons,yhr,yhs]
  rw[Nat.mul_add]
  omega
theorem zsA{α:Type}{l:List α}{g:α->List UInt8}{i:Nat}(h:i<l.length):(l.take (i+1)).flatMap g=(l.take i).flatMap g++g l[i]:=by
 rw[List.take_succ_eq_append_getElem h,List.flatMap_append]
 simp
theorem zAB{α:Type}{l:List α}{g:α->List UInt8}{c n:Nat}(h:∀x∈l,(g x).length<=c)(hn:l.length<=n)(i:Nat):((l.take i).flatMap g).length<=c*n:=by
 have h1:=zHg (l:=l.take i) (g:=g) fun x hx=>h x (List.mem_of_mem_take hx)
 have h2:(l.take i).length<=n:=Nat.le_trans (by rw[List.length_take];exact Nat.min_le_right _ _) hn
 exact Nat.le_trans h1 (Nat.mul_le_mul_left c h2)
theorem Wt.flen{t:Typ}(h:Wt t)(i:Nat):((t.fields.take i).flatMap lnM).length<=76000000:=zAB (fun f hf=>zwg (h.field f hf)) h.fields i
theorem Wt.len{t:Typ}(h:Wt t):(txT t).length<=76000030:=by
 have h1:=h.flen t.fields.length
 rw[List.take_length]at h1
 have h2:=h.name
 have h3:=h.key
 unfold txT
 cases(t.key==[])<;>simp only[cond_true,cond_false,yhr,yhs,yht]<;>omega
theorem Wr.tlen{p:Part}(h:Wr p)(i:Nat):((p.types.take i).flatMap txT).length<=380000150:=zAB (fun f hf=>(h.type f hf).len) h.types i
theorem zu8{p:Part}(h:Wr p):zkb p=some (txM p):=by
 rw[zoJ];unfold zjU
 have hn:=h.name
 have ht:=h.types
 rw[big (n:=List.length [112,97,114,116,32]+List.length p.name) (by simp;omega),big (n:=List.length ([112,97,114,116,32]++p.name)+List.length [10]) (by simp;omega)]
 simp only[zag]
 unfold txM
 have l0:([112,97,114,116,32]++p.name++[10]).length<=20:=by simp;omega
 generalize[112,97,114,116,32]++p.name++[10]=z at *
 rw[zeV (s0:=(z,(0:Int))) p.types.length (fun i=>(z++(p.types.take i).flatMap txT,(i:Int))) (z++p.types.flatMap txT,(p.types.length:Int)) (by simp) ?_ ?_]
 ·intro i hi
  have hw:=h.type _ (ygh hi)
  have l1:=h.tlen i
  have h3:=zap hi (up (Nat.le_trans ht (by decide)))
  rw[zsA hi]
  simp only[zaS hi,zaE,zaj hi,zaf,zag,zac]
  generalize p.types[i]=t at *
  have l2:(z++(p.types.take i).flatMap txT).length<=380000200:=by rw[yhr];omega
  rw[<-List.append_assoc]
  generalize z++(p.types.take i).flatMap txT=y at *
  have l3:=hw.name
  have l4:=hw.key
  have l5:=hw.fields
  have l6:=hw.flen
  (rw[zdN];rotate_left;(have:=hBM;simp only[yhr,yhs,yht,List.length_map,yhc,yhb];omega))
  (rw[zdN];rotate_left;(have:=hBM;simp only[yhr,yhs,yht,List.length_map,yhc,yhb];omega))
  have k1:(zab (t.key !=[]) (gd (decide (List.length (y++[116,121,112,101,32]++t.name)+List.length [32,107,101,121,32]<=BIG))
              (gd (decide (List.length (y++[116,121,112,101,32]++t.name++[32,107,101,121,32])+List.length t.key<=BIG))
               (some (y++[116,121,112,101,32]++t.name++[32,107,101,121,32]++t.key))))
             (some (y++[116,121,112,101,32]++t.name)))=some (y++([116,121,112,101,32]++t.name++(bif t.key==[]then[]else[32,107,101,121,32]++t.key))):=by
   (rw[zdN];rotate_left;(have:=hBM;simp only[yhr,yhs,yht,List.length_map,yhc,yhb];omega))
   (rw[zdN];rotate_left;(have:=hBM;simp only[yhr,yhs,yht,List.length_map,yhc,yhb];omega))
   simp only[bne]
   cases(t.key==[])<;>simp[zab]
  rw[k1,zac]
  have l7:(y++([116,121,112,101,32]++t.name++(bif t.key==[]then[]else[32,107,101,121,32]++t.key))).length<=380000250:=by
   cases(t.key==[])<;>simp<;>omega
  have e1:y++txT t=y++([116,121,112,101,32]++t.name++(bif t.key==[]then[]else[32,107,101,121,32]++t.key))++[10]++t.fields.flatMap lnM:=by
   unfold txT
   simp only[List.append_assoc]
  rw[e1]
  generalize y++([116,121,112,101,32]++t.name++(bif t.key==[]then[]else[32,107,101,121,32]++t.key))=u at *
  (rw[zdN];rotate_left;(have:=hBM;simp only[yhr,yhs,yht,List.length_map,yhc,yhb];omega))
  rw[zeV (s0:=(u++[10],(0:Int))) t.fields.length (fun i=>(u++[10]++(t.fields.take i).flatMap lnM,(i:Int))) (u++[10]++t.fields.flatMap lnM,(t.fields.length:Int)) (by simp) ?_ ?_]
  ·rw[h3];rfl
  ·intro j hj
   have h4:=zap hj (up (Nat.le_trans l5 (by decide)))
   have l8:=l6 j
   have l9:=zwg (hw.field _ (ygh hj))
   simp only[zaS hj,zaE,zaj hj,zaf,zag,zac,zwB (hw.field _ (ygh hj)),h4]
   (rw[zdN];rotate_left;(have:=hBM;simp only[yhr,yhs,yht,List.length_map,yhc,yhb];omega))
   rw[zsA hj]
   simp only[List.append_assoc]
   rfl
  ·simp only[zaq,zae,List.take_length]
 ·simp only[zaq,zae,List.take_length]
theorem zIF(s:List UInt8):(s.map zaP).map zqt=s:=by
 rw[List.map_map]
 have:(zqt ∘ zaP)=id:=by
  funext c
  show UInt8.ofNat (Int.toNat (c.toNat:Int))=c
  rw[Int.toNat_natCast]
  exact UInt8.ofNat_toNat
 rw[this,List.map_id]
theorem zJ3{s:List UInt8}(h:s.length<=9000000000):zcG s=some ((s.length:Int),s.map zaP):=by
 rw[zg3];unfold zcz
 rw[zii]
 unfold zfs
 rw[zac]
 (rw[zdN];rotate_left;(have:=hBM;simp only[yhr,yhs,yht,List.length_map,yhc,yhb];omega))
theorem zyl{s b:List UInt8}(h0:0<b.length)(h:b.length+s.length<=9000000000):zas (s,b.map zaP)=some ((s.length:Int),(b++s).map zaP):=by
 rw[zed];unfold zbc;dsimp only
 rw[ze2]
 unfold zcm
 rw[zac,zdN (b:=decide (List.length (b.map zaP)=List.length (b.map zaP))) (by simp)]
 (rw[zdN];rotate_left;(have:=hBM;simp only[yhr,yhs,yht,List.length_map,yhc,yhb];omega))
 rw[List.map_append]
theorem zuK{p:Part}(h:Wr p):zdI p=some (txM p):=by
 rw[zh9];unfold zdD
 have hn:=h.name
 have ht:=h.types
 (rw[zdN];rotate_left;(have:=hBM;simp only[yhr,yhs,yht,List.length_map,yhc,yhb];omega))
 (rw[zdN];rotate_left;(have:=hBM;simp only[yhr,yhs,yht,List.length_map,yhc,yhb];omega))
 unfold txM
 have l0:([112,97,114,116,32]++p.name++[10]).length<=20:=by simp;omega
 have l00:0<([112,97,114,116,32]++p.name++[10]).length:=by simp
 generalize[112,97,114,116,32]++p.name++[10]=z at *
 rw[zJ3 (by omega),zac]
 rw[zeV (s0:=((0:Int),z.map zaP)) p.types.length (fun i=>((i:Int),(z++(p.types.take i).flatMap txT).map zaP)) ((p.types.length:Int),(z++p.types.flatMap txT).map zaP) (by simp) ?_ ?_]
 ·have hs:ziI ((z++p.types.flatMap txT).map zaP)=some (z++p.types.flatMap txT):=by
   rw[zlE]
   unfold ziH
   rw[zIF]
   (rw[zdN];rotate_left;(have:=hBM;simp only[yhr,yhs,yht,List.length_map,yhc,yhb];omega))
  rw[hs,zac]
 ·intro i hi
  have hw:=h.type _ (ygh hi)
  have l1:=h.tlen i
  have h3:=zap hi (up (Nat.le_trans ht (by decide)))
  rw[zsA hi]
  simp only[zaS hi,zaE,zaj hi,zaf,zag,zac]
  generalize p.types[i]=t at *
  have l2:(z++(p.types.take i).flatMap txT).length<=380000200:=by rw[yhr];omega
  have l20:0<(z++(p.types.take i).flatMap txT).length:=by rw[yhr];omega
  rw[<-List.append_assoc]
  generalize z++(p.types.take i).flatMap txT=y at *
  have l3:=hw.name
  have l4:=hw.key
  have l5:=hw.fields
  have l6:=hw.flen
  (rw[zdN];rotate_left;(have:=hBM;simp only[yhr,yhs,yht,List.length_map,yhc,yhb];omega))
  rw[zyl l20 (by(have:=hBM;simp only[yhr,yhs,yht,List.length_map,yhc,yhb];omega)),zac]
  have l21:(y++([116,121,112,101,32]++t.name)).length<=380000220:=by(have:=hBM;simp only[yhr,yhs,yht,List.length_map,yhc,yhb];omega)
  have l22:0<(y++([116,121,112,101,32]++t.name)).length:=by(have:=hBM;simp only[yhr,yhs,yht,List.length_map,yhc,yhb];omega)
  have e0:y++([116,121,112,101,32]++t.name++(bif t.key==[]then[]else[32,107,101,121,32]++t.key))=(y++([116,121,112,101,32]++t.name))++(bif t.key==[]then[]else[32,107,101,121,32]++t.key):=by simp only[List.append_assoc]
  have e1:y++txT t=y++([116,121,112,101,32]++t.name++(bif t.key==[]then[]else[32,107,101,121,32]++t.key))++[10]++t.fields.flatMap lnM:=by
   unfold txT
   simp only[List.append_assoc]
  rw[e1,e0]
  generalize y++([116,121,112,101,32]++t.name)=v at *
  have k1:(zab (t.key !=[])
              (gd (decide (List.length [32,107,101,121,32]+List.length t.key<=BIG))
               (zaa (zas ([32,107,101,121,32]++t.key,v.map zaP)) fun(x:Int×List Int)=>some x.snd))
              (some (v.map zaP)))=some ((v++(bif t.key==[]then[]else[32,107,101,121,32]++t.key)).map zaP):=by
   (rw[zdN];rotate_left;(have:=hBM;simp only[yhr,yhs,yht,List.length_map,yhc,yhb];omega))
   rw[zyl l22 (by(have:=hBM;simp only[yhr,yhs,yht,List.length_map,yhc,yhb];omega)),zac]
   simp only[bne]
   cases(t.key==[])<;>simp[zab]
  rw[k1,zac]
  have l7:(v++(bif t.key==[]then[]else[32,107,101,121,32]++t.key)).length<=380000250:=by
   cases(t.key==[])<;>simp<;>omega
  have l8:0<(v++(bif t.key==[]then[]else[32,107,101,121,32]++t.key)).length:=by rw[yhr];omega
  generalize v++(bif t.key==[]then[]else[32,107,101,121,32]++t.key)=u at *
  rw[zyl l8 (by(have:=hBM;simp only[yhr,yhs,yht,List.length_map,yhc,yhb];omega)),zac]
  dsimp only
  rw[zeV (s0:=((0:Int),List.map zaP (u++[(10:UInt8)]))) t.fields.length (fun i=>((i:Int),List.map zaP (u++[(10:UInt8)]++(t.fields.take i).flatMap lnM))) ((t.fields.length:Int),List.map zaP (u++[(10:UInt8)]++t.fields.flatMap lnM)) (by simp) ?_ ?_]
  ·rw[h3];rfl
  ·intro j hj
   have h4:=zap hj (up (Nat.le_trans l5 (by decide)))
   have l8:=l6 j
   have l9:=zwg (hw.field _ (ygh hj))
   simp only[zaS hj,zaE,zaj hj,zaf,zag,zac,zvZ (hw.field _ (ygh hj)),h4]
   rw[zyl (by(have:=hBM;simp only[yhr,yhs,yht,List.length_map,yhc,yhb];omega)) (by(have:=hBM;simp only[yhr,yhs,yht,List.length_map,yhc,yhb];omega)),zac,zsA hj]
   simp only[List.append_assoc]
   rfl
  ·simp only[zaq,zae,List.take_length]
 ·simp only[zaq,zae,List.take_length]
end Go.Fw
namespace Go.Fw
open Go
set_option linter.unusedSimpArgs false
set_option linter.unusedVariables false
theorem zII{α:Type}(l:List α):((l.length:Int)==0)= !decide (0<l.length):=zEb _
theorem zu6{p:Part}{i:Nat}(hp:KP KK p)(hi:i<p.types.length):zj9 (p,(i:Int))=some (zdO p i p.types[i]):=by
 rw[zoG];unfold zjR;dsimp only
 have ht:=hp.2.2 _ (ygh hi)
 have hT:=up ht.2.2.1
 have hP:=up hp.2.1
 simp only[zaE,zaj hi,zag,zac,zfq (up ht.1),zfq (up ht.2.1),zII,zD9]
 generalize hgt:p.types[i]=t at *
 have k1:(zab (!nameM t.name) (some true) (zab (t.key !=[]) (zab (!nameM t.key) (some true) (zab (!decide (0<t.fields.length)) (some true) (some !decide (t.fields.length<=8)))) (zab (!decide (0<t.fields.length)) (some true) (some !decide (t.fields.length<=8)))))
   =some (!(nameM t.name&&((t.key==[] ||nameM t.key)&&(decide (0<t.fields.length)&&decide (t.fields.length<=8))))):=by
  simp only[bne]
  cases nameM t.name<;>cases(t.key==[])<;>cases nameM t.key<;>cases decide (0<t.fields.length)<;>cases decide (t.fields.length<=8)<;>rfl
 rw[k1,zac]
 have k2:lineM t=((nameM t.name&&((t.key==[] ||nameM t.key)&&(decide (0<t.fields.length)&&decide (t.fields.length<=8))))&&t.fields.all zqD):=by
  unfold lineM
  simp only[Bool.and_assoc]
 unfold zdO
 rw[k2]
 cases(nameM t.name&&((t.key==[] ||nameM t.key)&&(decide (0<t.fields.length)&&decide (t.fields.length<=8))))with
 | false=>rfl
 | true =>
  simp only[Bool.not_true,zae,Bool.true_and]
  rw[zdt (s0:=(0:Int)) t.fields (fun i=>(i:Int)) (t.fields.length:Int) (fun _ f=>bif zqD f then none else some 1) rfl ?_ ?_]
  ·rw[zdx,zfv]
   cases t.fields.all zqD with
   | false=>rfl
   | true =>
    simp only[cond_true,zau,zd4 hP,zac,bne,Bool.not_true,cond_false]
    cases(ixM (fun u:Typ=>u.name==t.name) p.types==(i:Int))with
    | false=>rfl
    | true =>
     simp only[Bool.not_true,zae,cond_false]
     rw[zdt (s0:=(0:Int)) t.fields (fun i=>(i:Int)) (t.fields.length:Int) (fun i f=>bif (ixM (fun g:Field=>g.name==f.name) t.fields==(i:Int))then none else some 2) rfl ?_ ?_]
     ·rw[zdx]
      show _=some (bif !zzs t then _ else _)
      unfold zzs
      cases ztW (fun i f=>ixM (fun g:Field=>g.name==f.name) t.fields==(i:Int)) 0 t.fields with
      | false=>rfl
      | true =>
       simp only[cond_true,Bool.not_true,cond_false]
       rw[zdt (s0:=(0:Int)) t.fields (fun i=>(i:Int)) (t.fields.length:Int) (fun _ f=>bif knownM p f then none else some 3) rfl ?_ ?_]
       ·rw[zdx,zfv]
        cases t.fields.all (knownM p)with
        | false=>rfl
        | true =>
         simp only[cond_true,Bool.not_true,cond_false,zzb hT,zac]
         cases zEM t with
         | false=>rfl
         | true =>
          simp only[Bool.not_true,zae,cond_false]
          rw[zdt (s0:=(0:Int)) t.fields (fun i=>(i:Int)) (t.fields.length:Int) (fun _ f=>bif zlW t f then none else some 5) rfl ?_ ?_]
          ·rw[zdx,zfv]
           cases t.fields.all (zlW t)<;>rfl
          ·intro j hj
           have h3:=zap hj hT
           have hf:=ht.2.2.2 _ (ygh hj)
           simp only[zaS hj,zaE,zaj hj,zaf,zag,zac,h3,zu7 hT (up hf.2.2.1)]
           generalize t.fields[j]=f
           unfold zlW
           cases zy0 t f<;>cases f.far<;>cases f.shared<;>rfl
          ·simp only[zaq,zae]
       ·intro j hj
        have h3:=zap hj hT
        simp only[zaS hj,zaE,zaj hj,zaf,zag,zac,h3,ztj,zd4 hP,zDE,<-zyj]
        generalize t.fields[j]=f
        unfold knownM
        cases zsj f.of<;>cases(tyM p f.of).isSome<;>rfl
       ·simp only[zaq,zae]
     ·intro j hj
      have h3:=zap hj hT
      simp only[zaS hj,zaE,zaj hj,zaf,zag,zac,h3,zfU hT]
      cases(ixM (fun g:Field=>g.name==t.fields[j].name) t.fields==(j:Int))<;>rfl
     ·simp only[zaq,zae]
  ·intro j hj
   have h3:=zap hj hT
   have hf:=ht.2.2.2 _ (ygh hj)
   simp only[zaS hj,zaE,zaj hj,zaf,zag,zac,h3,zfq (up hf.1),zfq (up hf.2.1),ztj]
   generalize t.fields[j]=f at *
   unfold zqD
   have k3:(zab (!nameM f.name) (some true) (zab (!zsj f.of) (some !nameM f.of) (some false)))=some (!(nameM f.name&&(zsj f.of ||nameM f.of))):=by
    cases nameM f.name<;>cases zsj f.of<;>cases nameM f.of<;>rfl
   rw[k3,zac,<-Bool.and_assoc]
   cases(nameM f.name&&(zsj f.of ||nameM f.of))with
   | false=>rfl
   | true =>
    simp only[Bool.not_true,zae,Bool.true_and]
    rw[zdt (s0:=(0:Int)) f.needs (fun i=>(i:Int)) (f.needs.length:Int) (fun _ s=>bif nameM s then none else some (Sum.inr (Sum.inr 1))) rfl ?_ ?_]
    ·rw[zdx,zfv]
     cases f.needs.all nameM<;>rfl
    ·intro k hk
     have h4:=zap hk (up hf.2.2.1)
     simp only[zaS hk,zaE,zaj hk,zaf,zag,zac,h4,zfq (up (hf.2.2.2 _ (ygh hk)))]
     cases nameM f.needs[k]<;>rfl
    ·simp only[zaq,zae]
  ·simp only[zaq,zae]
theorem zoW(p:Part)(i:Nat)(t:Typ):0<=zdO p i t/\zdO p i t<=5/\(zdO p i t=0->lineM t=true):=by
 unfold zdO
 cases lineM t<;>cases(ixM (fun u:Typ=>u.name==t.name) p.types==(i:Int))<;>cases zzs t<;>cases t.fields.all (knownM p)<;>cases zEM t<;>cases t.fields.all (zlW t)<;>simp
def pcF(p:Part)(i:Nat)(t:Typ):Option PFault:=bif !(zdO p i t==0)then some ⟨(i:Int)+1,zdO p i t⟩else bif t.fields.any isQ then some ⟨(i:Int)+1,7⟩else none
def noRoot(p:Part):Bool:=match p.types with
 | []=>true
 | t:: _=>t.name !=[113,117,101,114,121] ||t.key !=[]
def pcM(p:Part):PFault:=
 bif decide (5<p.types.length)then⟨6,6⟩else bif !nameM p.name then⟨0,1⟩else bif noRoot p then⟨0,7⟩else
 match fsI (pcF p) 0 p.types with
 | some r=>r
 | none=>bif decide (1500<(txM p).length)then⟨0,6⟩else⟨0,0⟩
theorem zhB{α J:Type}{f:Nat->α->Option J}{xs:List α}{i:Nat}(h:fsI f i xs=none):∀(j:Nat)(hj:j<xs.length),f (i+j) xs[j]=none:=by
 induction xs generalizing i with
 | nil=>intro j hj;simp at hj
 | cons x xs ih =>
  simp only[fsI]at h
  cases hx:f i x with
  | some r=>rw[hx]at h;cases h
  | none =>
   rw[hx]at h
   intro j hj
   cases j with
   | zero=>exact hx
   | succ j =>
    have:=ih h j (by simpa using hj)
    rw[Nat.add_assoc,Nat.add_comm 1 j]at this
    exact this
theorem zDN{p:Part}(hp:KP KK p)(h5:p.types.length<=5)(hn:nameM p.name=true)(h:fsI (pcF p) 0 p.types=none):Wr p:=by
 refine⟨ziu hn,h5,fun t ht=>?_⟩
 obtain⟨j,hj,rfl⟩:=List.getElem_of_mem ht
 have:=zhB h j hj
 unfold pcF at this
 refine .mk' (hp.2.2 _ ht) ((zoW p (0+j) p.types[j]).2.2 ?_)
 cases hz:(zdO p (0+j) p.types[j]==0)with
 | true=>simpa using hz
 | false=>rw[hz]at this;cases this
theorem zrP(n m:Nat):decide ((n:Int)>(m:Int))=decide (m<n):=by
 by_cases h:m<n
 ·simp[h]
 ·simp[h]
theorem zuZ(p:Part):(zab ((↑(List.length p.types):Int)==0) (some true) (zaa p.types[Int.toNat 0]? fun(x:Typ)=>zab (x.name !=[113,117,101,114,121]) (some true) (zaa p.types[Int.toNat 0]? fun(x:Typ)=>some (x.key !=[]))))=some (noRoot p):=by
 unfold noRoot
 cases h:p.types with
 | nil=>rfl
 | cons t ts =>
  rw[zDF]
  simp only[yhs,Nat.zero_lt_succ,decide_true,Bool.not_true,zae,Int.toNat_zero,List.getElem?_cons_zero,zac]
  cases(t.name !=[113,117,101,114,121])<;>rfl
theorem zhJ{p:Part}(hp:KP KK p):zcZ p=some (pcM p):=by
 rw[zly];unfold zgB
 rw[show((5:Int))=((5:Nat):Int)from rfl,zrP]
 unfold pcM
 cases h5:decide (5<p.types.length)with
 | true=>rfl
 | false =>
  have h5':p.types.length<=5:=by simpa using h5
  rw[zae,zfq (up hp.1),zac,zuZ]
  cases hn:nameM p.name with
  | false=>rfl
  | true =>
   simp only[Bool.not_true,zae,zac,cond_false]
   cases noRoot p with
   | true=>rfl
   | false =>
    simp only[zae,cond_false]
    rw[zdt (s0:=((0:Int),(0:Int),(0:Int))) p.types (fun i=>((i:Int),(0:Int),(0:Int))) ((p.types.length:Int),(0:Int),(0:Int)) (pcF p) rfl ?_ ?_]
    ·cases hf:fsI (pcF p) 0 p.types with
     | some r=>rfl
     | none =>
      simp only[zau]
      rw[zu8 (zDN hp h5' hn hf),zac,show((1500:Int))=((1500:Nat):Int)from rfl,zrP]
      cases decide (1500<(txM p).length)<;>rfl
    ·intro i hi
     have h3:=zap hi (up hp.2.1)
     have ht:=hp.2.2 _ (ygh hi)
     simp only[zaS hi,zaf,zu6 hp hi,zac,h3,zag,bne]
     unfold pcF
     cases(zdO p i p.types[i]==0)with
     | false=>rfl
     | true =>
      simp only[Bool.not_true,zae,cond_false]
      rw[zdt (s0:=((0:Int),(0:Int),(0:Int))) p.types[i].fields (fun i=>((i:Int),(0:Int),(0:Int))) ((p.types[i].fields.length:Int),(0:Int),(0:Int)) (fun _ f=>bif !isQ f then none else some (Sum.inr (Sum.inr ⟨(i:Int)+1,7⟩))) rfl ?_ ?_]
      ·rw[zdx,zfv]
       have:p.types[i].fields.all (fun f=>!isQ f)= !p.types[i].fields.any isQ:=by
        rw[List.all_eq_not_any_not]
        simp
       rw[this]
       cases p.types[i].fields.any isQ<;>rfl
      ·intro j hj
       have h4:=zap hj (up ht.2.2.1)
       simp only[zaE,zaj hi,zaS hj,zaj hj,zaf,zag,zac,h4]
       unfold isQ
       cases(p.types[i].fields[j].of==[113,117,101,114,121])<;>rfl
      ·simp only[zaE,zaj hi,zaq,zae,zag,zac]
    ·simp only[zaq,zae]
theorem zuI{p:Part}(hp:KP KK p):zex p=some (pcM p):=by
 rw[zjj];unfold zej
 rw[show((5:Int))=((5:Nat):Int)from rfl,zrP]
 unfold pcM
 cases h5:decide (5<p.types.length)with
 | true=>rfl
 | false =>
  have h5':p.types.length<=5:=by simpa using h5
  rw[zae,zfi (up hp.1),zac,zuZ]
  cases hn:nameM p.name with
  | false=>rfl
  | true =>
   simp only[Bool.not_true,zae,zac,cond_false]
   cases noRoot p with
   | true=>rfl
   | false =>
    simp only[zae,cond_false]
    rw[zdt (s0:=((0:Int),(0:Int),(0:Int))) p.types (fun i=>((i:Int),(0:Int),(0:Int))) ((p.types.length:Int),(0:Int),(0:Int)) (pcF p) rfl ?_ ?_]
    ·cases hf:fsI (pcF p) 0 p.types with
     | some r=>rfl
     | none =>
      simp only[zau]
      rw[zuK (zDN hp h5' hn hf),zac,show((1500:Int))=((1500:Nat):Int)from rfl,zrP]
      cases decide (1500<(txM p).length)<;>rfl
    ·intro i hi
     have h3:=zap hi (up hp.2.1)
     have hc:=zoW p i p.types[i]
     simp only[zaS hi,zaf,zva hp hi,zac,h3,zag]
     unfold pcF
     cases hz:(zdO p i p.types[i]==0)with
     | false =>
      have hz':¬zdO p i p.types[i]=0:=by simpa using hz
      have:decide (zdO p i p.types[i]>0)=true:=by simp;omega
      simp only[Bool.not_false,cond_true,this,zaf]
     | true =>
      simp only[Bool.not_true,cond_false]
      cases p.types[i].fields.any isQ<;>rfl
    ·simp only[zaq,zae]
def okP(p:Part):Bool:=(pcM p).code==0
theorem zFb(p:Part):((pcM p).pos==0&&((pcM p).code==0&&true))=okP p:=by
 unfold okP
 cases hc:((pcM p).code==0)with
 | false=>simp
 | true =>
  have hc':(pcM p).code=0:=by simpa using hc
  have:(pcM p).pos=0:=by
   unfold pcM at hc'|-
   cases h1:decide (5<p.types.length)with
   | true=>rw[h1]at hc';cases hc'
   | false =>
    rw[h1]at hc'
    simp only[cond_false]at hc'|-
    cases h2:nameM p.name with
    | false=>rfl
    | true =>
     rw[h2]at hc'
     simp only[Bool.not_true,cond_false]at hc'|-
     cases h3:noRoot p with
     | true=>rfl
     | false =>
      rw[h3]at hc'
      simp only[cond_false]at hc'|-
      cases h4:fsI (pcF p) 0 p.types with
      | none=>cases decide (1500<(txM p).length)<;>rfl
      | some r =>
       rw[h4]at hc'
       exfalso
       have hr:∀(xs:List Typ)(i:Nat)(r:PFault),fsI (pcF p) i xs=some r->r.code≠0:=by
        intro xs
        induction xs with
        | nil=>intro i r h;cases h
        | cons x xs ih =>
         intro i r h
         simp only[fsI]at h
         cases hx:pcF p i x with
         | none=>rw[hx]at h;exact ih _ _ h
         | some r' =>
          rw[hx]at h
          cases h
          unfold pcF at hx
          cases hz:(zdO p i x==0)with
          | false=>rw[hz]at hx;cases hx;simpa using hz
          | true =>
           rw[hz]at hx
           simp only[Bool.not_true,cond_false]at hx
           cases hq:x.fields.any isQ with
           | true=>rw[hq]at hx;cases hx;simp
           | false=>rw[hq]at hx;cases hx
       exact hr _ _ _ h4 hc'
  simp[this]
theorem znz{p:Part}(hp:KP KK p):zd6 p=some (okP p):=by
 rw[zmS];unfold zhW
 rw[zuI hp,zac,zFb]
end Go.Fw
