/- A part of the proof: what stands for the program, its functions, and what they come to. -/
import Derived.Shelf.Strings.Builder1
import Derived.Lib.UnsafeStr
import Derived.Shelf.Slices.Clone
import Derived.Shelf.Strings.OnBuilder
import Derived.Test.YtokndaldhjmdeaaGreatProg
import Derived.KernelRfl
import Derived.Test.YtokndaldhjmdeaaGreatM4
import Derived.Test.YtokndaldhjmdeaaGreatM5
set_option linter.all false
/- What (*strings.Builder).String does to the memory, in full. -/
namespace Go.Proofs
open Go.Shelf Go.RowKit
variable {P : Program} {ρ : Ren}

set_option maxHeartbeats 1000000 in
set_option maxRecDepth 100000 in
theorem Any.String_exact (L : Lays.n169 P ρ) (X : Builder.Extra P ρ) (b g cap : Nat) (l : List UInt8) (cur : Array Value) (w : World) (hb : w.heap[b]? = some (.cells #[.pointer (some ⟨b, 0, none⟩), .slice (some ⟨g, 0, none⟩) l.length cap] (ρ.t 72) (0, 0)))
    (hg : w.heap[g]? = some (.cells cur (ρ.t 5) (0, 0))) (h0 : l ≠ []) (hc : l.length ≤ cap) (hcur : cap ≤ cur.size) (h63 : l.length ≤ 9223372036854775807) (hcell : ∀ (j : Nat) (hj : j < l.length), cur[j]? = some (.int .u8 l[j].toNat)) :
    Calls P (ρ.f 169) #[.pointer (some ⟨b, 0, none⟩)] w fun e w' => e = .returned (.string ⟨l.toArray⟩) ∧ w' = w.drew.freeze ⟨g, 0, none⟩ l.length := by
  have hl : 0 < l.length := List.length_pos_iff.2 h0
  have hbd : w.drew.heap[b]? = some (.cells #[.pointer (some ⟨b, 0, none⟩), .slice (some ⟨g, 0, none⟩) l.length cap] (ρ.t 72) (0, 0)) := hb
  have hgd : w.drew.heap[g]? = some (.cells cur (ρ.t 5) (0, 0)) := hg
  have c1 : w.drew.cell? ⟨b, 1, none⟩ = some (.slice (some ⟨g, 0, none⟩) l.length cap) := by rw [Lib.cell_of_heap hbd]; rfl
  have hSD : (Builtin.unsafeSliceData_ #[(ρ.t 37)] (ρ.t 127) #[.slice (some ⟨g, 0, none⟩) l.length cap]).run P w.drew = .ok (.pointer (some ⟨g, 0, none⟩)) w.drew :=
    Lib.run_unsafeSliceData_row _ _ _ _ _ _ (by omega)
  have hUS : (Builtin.unsafeString_ #[(ρ.t 127), (ρ.t 3)] (ρ.t 9) #[.pointer (some ⟨g, 0, none⟩), .int .i64 l.length]).run P w.drew = .ok (.string ⟨l.toArray⟩) (w.drew.freeze ⟨g, 0, none⟩ l.length) :=
    Lib.run_unsafeString_row w.drew (ρ.t 127) (ρ.t 3) (ρ.t 9) (ρ.t 5) L.t127 X.cellsByte g cur.size (by simp [World.shape?, hgd]) l h0 (by omega) h63 fun j x hx => by
      obtain ⟨hj, rfl⟩ := List.getElem?_eq_some_iff.1 hx
      rw [show (⟨g, 0, none⟩ : Addr).add j = ⟨g, 0 + j, none⟩ by unfold Addr.add; split <;> simp_all]
      have := hcell j hj
      simp only [World.cell?, hgd]
      simpa using this
  have mixed := L.mixed
  have t72 := L.t72; have a72 := L.a72; have z72 := L.z72; have v72 := L.v72; have u72 := run_underlying L.t72
  have t70 := L.t70; have a70 := L.a70; have z70 := L.z70; have v70 := L.v70; have u70 := run_underlying L.t70
  have t37 := L.t37; have a37 := L.a37; have z37 := L.z37; have v37 := L.v37; have u37 := run_underlying L.t37
  have t127 := L.t127; have a127 := L.a127; have z127 := L.z127; have v127 := L.v127; have u127 := run_underlying L.t127
  have t3 := L.t3; have a3 := L.a3; have z3 := L.z3; have v3 := L.v3; have u3 := run_underlying L.t3
  have t9 := L.t9; have a9 := L.a9; have z9 := L.z9; have v9 := L.v9; have u9 := run_underlying L.t9
  have t5 := X.t5; have a5 := X.a5; have z5 := X.z5; have v5 := X.v5; have u5 := run_underlying X.t5
  go_enter L.f169, Body.n169_ntmps ρ
  go_wp2
  go_region_o
  all_goals (go_wp2; go_ret; exact ⟨rfl, rfl⟩)

theorem froze_all (w : World) (g n : Nat) : (w.drew.freeze ⟨g, 0, none⟩ n).os = w.os ∧ (w.drew.freeze ⟨g, 0, none⟩ n).tape = w.tape ∧ (w.drew.freeze ⟨g, 0, none⟩ n).output = w.output ∧ w.heap.size ≤ (w.drew.freeze ⟨g, 0, none⟩ n).heap.size ∧ ∀ k, k ≠ g → k < w.heap.size → (w.drew.freeze ⟨g, 0, none⟩ n).heap[k]? = w.heap[k]? := by
  unfold World.freeze World.drew
  split
  · exact ⟨rfl, rfl, rfl, Nat.le_refl _, fun _ _ _ => rfl⟩
  · refine ⟨rfl, rfl, rfl, by simp, fun k hk _ => ?_⟩
    simp [Array.getElem?_modify, Ne.symm hk]
theorem Any.clone_strs (L : Lays2.n16 P ρ) (b o n c : Nat) (xs : List (List UInt8)) (w : World) (hn : n = xs.length) (hb : n * 16 ≤ 140737488355328) (hc : ∀ (j : Nat) (hj : j < xs.length), w.cell? ⟨b, o + j, none⟩ = some (.string ⟨xs[j].toArray⟩)) :
    Calls P (ρ.f 16) #[.slice (some ⟨b, o, none⟩) n c] w fun e w' => ∃ v', e = .returned v' ∧ w'.ownsRow w.heap.size (ρ.t 9) 1 v' n (xs.map fun x => Value.string ⟨x.toArray⟩) ∧ v' ≠ .slice none 0 0 ∧ Below w.heap.size w w' := by
  subst hn
  have := Any.slices_Clone_string L b o xs.length c (xs.map fun s => ⟨s.toArray⟩) w (by simp) hb (fun j hj => by
    have hj' : j < xs.length := by simpa using hj
    rw [hc j hj']
    simp [hj'])
  rw [List.take_of_length_le (by simp), List.map_map] at this
  exact this
theorem Any.clone_ints (L : Lays2.n15 P ρ) (b o n c : Nat) (xs : List Int) (w : World) (hn : n = xs.length) (hb : n * 8 ≤ 140737488355328) (hc : ∀ (j : Nat) (hj : j < xs.length), w.cell? ⟨b, o + j, none⟩ = some (.int .i64 xs[j])) :
    Calls P (ρ.f 15) #[.slice (some ⟨b, o, none⟩) n c] w fun e w' => ∃ v', e = .returned v' ∧ w'.ownsRow w.heap.size (ρ.t 3) 1 v' n (xs.map (Value.int .i64)) ∧ v' ≠ .slice none 0 0 ∧ Below w.heap.size w w' := by
  subst hn
  have := Any.slices_Clone_int L b o xs.length c xs w (Nat.le_refl _) hb (fun j hj => by
    rw [hc j hj]
    simp [hj])
  rw [List.take_length] at this
  exact this
end Go.Proofs
/- The library's functions of this program: their texts and types, as the shelf's contracts want them. -/
namespace Go.Proofs
open Go.Shelf Go.RowKit
set_option maxRecDepth 100000
def Tryz.lays156_ren : Go.Shelf.Ren := ⟨fun | 156 => 26 | 165 => 50 | 166 => 51 | 169 => 52 | 240 => 85 | 241 => 86 | 276 => 115 | 277 => 116 | n => n, fun | 31 => 26 | 9 => 9 | 3 => 3 | 4 => 4 | 0 => 0 | 20 => 20 | 72 => 90 | 76 => 94 | 70 => 88 | 37 => 22 | 75 => 93 | 127 => 135 | 164 => 161 | 5 => 5 | 80 => 96 | n => n, fun | n => n⟩
theorem Tryz.lays156 : Go.Proofs.Lays.n156 Tryz.prog Tryz.lays156_ren := {
  mixed := by kernel_rfl
  f156 := Tryz.func26.trans (congrArg some (by kernel_rfl))
  f165 := Tryz.func50.trans (congrArg some (by kernel_rfl))
  f166 := Tryz.func51.trans (congrArg some (by kernel_rfl))
  f169 := Tryz.func52.trans (congrArg some (by kernel_rfl))
  f240 := Tryz.func85.trans (congrArg some (by kernel_rfl))
  f241 := Tryz.func86.trans (congrArg some (by kernel_rfl))
  f276 := Tryz.func115.trans (congrArg some (by kernel_rfl))
  f277 := Tryz.func116.trans (congrArg some (by kernel_rfl))
  t0 := Tryz.underlying0
  a0 := Tryz.isAgg0
  z0 := Tryz.sizeOf0
  v0 := Tryz.zeroValue0
  t3 := Tryz.underlying3
  a3 := Tryz.isAgg3
  z3 := Tryz.sizeOf3
  v3 := Tryz.zeroValue3
  t4 := Tryz.underlying4
  a4 := Tryz.isAgg4
  z4 := Tryz.sizeOf4
  v4 := Tryz.zeroValue4
  t9 := Tryz.underlying9
  a9 := Tryz.isAgg9
  z9 := Tryz.sizeOf9
  v9 := Tryz.zeroValue9
  t20 := Tryz.underlying20
  a20 := Tryz.isAgg20
  z20 := Tryz.sizeOf20
  v20 := Tryz.zeroValue20
  t31 := Tryz.underlying26
  a31 := Tryz.isAgg26
  z31 := Tryz.sizeOf26
  v31 := Tryz.zeroValue26
  t37 := Tryz.underlying22
  a37 := Tryz.isAgg22
  z37 := Tryz.sizeOf22
  v37 := Tryz.zeroValue22
  t70 := Tryz.underlying88
  a70 := Tryz.isAgg88
  z70 := Tryz.sizeOf88
  v70 := Tryz.zeroValue88
  t72 := Tryz.underlying90
  a72 := Tryz.isAgg90
  z72 := Tryz.sizeOf90
  v72 := Tryz.zeroValue90
  t75 := Tryz.underlying93
  a75 := Tryz.isAgg93
  z75 := Tryz.sizeOf93
  v75 := Tryz.zeroValue93
  t76 := Tryz.underlying94
  a76 := Tryz.isAgg94
  z76 := Tryz.sizeOf94
  v76 := Tryz.zeroValue94
  t127 := Tryz.underlying135
  a127 := Tryz.isAgg135
  z127 := Tryz.sizeOf135
  v127 := Tryz.zeroValue135
  t164 := Tryz.underlying161
  a164 := Tryz.isAgg161
  z164 := Tryz.sizeOf161
  v164 := Tryz.zeroValue161 }
theorem Tryz.Builder_Extra_156 : Builder.Extra Tryz.prog Tryz.lays156_ren := {
  sizeBuilder := by kernel_rfl
  liesBuilder := by kernel_rfl
  t5 := Tryz.underlying5
  a5 := Tryz.isAgg5
  z5 := Tryz.sizeOf5
  v5 := Tryz.zeroValue5
  infoByte := by kernel_rfl
  cellsByte := by kernel_rfl
  sizeByte := by kernel_rfl
  neB5 := by decide }
def Tryz.laysNm215_ren : Go.Shelf.Ren := ⟨fun | 15 => 49 | n => n, fun | 22 => 51 | 3 => 3 | 4 => 4 | n => n, fun | n => n⟩
theorem Tryz.laysNm215 : Go.Proofs.Lays2.n15 Tryz.prog Tryz.laysNm215_ren := {
  mixed := by kernel_rfl
  f15 := Tryz.func49.trans (congrArg some (by kernel_rfl))
  t3 := Tryz.underlying3
  a3 := Tryz.isAgg3
  z3 := Tryz.sizeOf3
  v3 := Tryz.zeroValue3
  t4 := Tryz.underlying4
  a4 := Tryz.isAgg4
  z4 := Tryz.sizeOf4
  v4 := Tryz.zeroValue4
  t22 := Tryz.underlying51
  a22 := Tryz.isAgg51
  z22 := Tryz.sizeOf51
  v22 := Tryz.zeroValue51
  i3 := by kernel_rfl }
def Tryz.laysNm216_ren : Go.Shelf.Ren := ⟨fun | 16 => 71 | n => n, fun | 24 => 26 | 9 => 9 | 4 => 4 | n => n, fun | n => n⟩
theorem Tryz.laysNm216 : Go.Proofs.Lays2.n16 Tryz.prog Tryz.laysNm216_ren := {
  mixed := by kernel_rfl
  f16 := Tryz.func71.trans (congrArg some (by kernel_rfl))
  t4 := Tryz.underlying4
  a4 := Tryz.isAgg4
  z4 := Tryz.sizeOf4
  v4 := Tryz.zeroValue4
  t9 := Tryz.underlying9
  a9 := Tryz.isAgg9
  z9 := Tryz.sizeOf9
  v9 := Tryz.zeroValue9
  t24 := Tryz.underlying26
  a24 := Tryz.isAgg26
  z24 := Tryz.sizeOf26
  v24 := Tryz.zeroValue26
  i9 := by kernel_rfl }
end Go.Proofs
namespace Go.Fw
open Go Go.Proofs
set_option linter.unusedVariables false
noncomputable def zdy(d:List (List UInt8)×List UInt8):Option (List UInt8):=zzJ d
noncomputable def zaQ:List (List UInt8)×List UInt8->Option (List UInt8):=zah zdy
theorem zeS(d:List (List UInt8)×List UInt8):zaQ d=zdy d:=congrFun (zad zdy) d
noncomputable def zdH:TE:=⟨26,[.lst .str,.str],[],.str,[],zaQ⟩
theorem zlj:EOk Tryz.prog zdH:=zDJ zeS Tryz.call26 (fun bk o c xs sep w h1 h2 h3 h4 h5=>Any.strings_Join Tryz.lays156 Tryz.Builder_Extra_156 bk o c xs sep w h1 h2 h3 h4 h5) (fun a c sep w=>Any.strings_Join_none Tryz.lays156 Tryz.Builder_Extra_156 a c sep w)
noncomputable def zaM(d:List (List UInt8)):Option (List (List UInt8)):=gd (decide (d.length*16<=140737488355328)) (some d)
noncomputable def zaN:List (List UInt8)->Option (List (List UInt8)):=zah zaM
theorem zca(d:List (List UInt8)):zaN d=zaM d:=congrFun (zad zaM) d
noncomputable def zbt:TE:=⟨71,[.lst .str],[],(.lst .str),[],zaN⟩
theorem zf9:EOk Tryz.prog zbt:=zth (sz:=16) rfl zca fun xs hx=>zq4 (av:=fun x=>AV.str x) (mk:=fun(x:List UInt8)=>Value.string ⟨x.toArray⟩) (ty:=Tryz.laysNm216_ren.t 9) (sz:=16) zvJ (fun _=>rfl) Tryz.call71 (fun b o n c xs w hn hb hc=>Any.clone_strs Tryz.laysNm216 b o n c xs w hn hb hc) (fun n c w=>Any.slices_Clone_string_nil Tryz.laysNm216 n c w) (fun a c w=>Any.slices_Clone_string_zero Tryz.laysNm216 a c w) xs hx (by decide)
noncomputable def zbH(d:List Int):Option (List Int):=gd (decide (d.length*8<=140737488355328)) (some d)
noncomputable def zcJ:List Int->Option (List Int):=zah zbH
theorem zdE(d:List Int):zcJ d=zbH d:=congrFun (zad zbH) d
noncomputable def zcK:TE:=⟨49,[.lst (.int .i64)],[],(.lst (.int .i64)),[],zcJ⟩
theorem zji:EOk Tryz.prog zcK:=zth (sz:=8) rfl zdE fun xs hx=>zq4 (av:=fun x=>AV.int .i64 x) (mk:=fun(x:Int)=>Value.int .i64 x) (ty:=Tryz.laysNm215_ren.t 3) (sz:=8) zDB (fun _=>rfl) Tryz.call49 (fun b o n c xs w hn hb hc=>Any.clone_ints Tryz.laysNm215 b o n c xs w hn hb hc) (fun n c w=>Any.slices_Clone_int_nil Tryz.laysNm215 n c w) (fun a c w=>Any.slices_Clone_int_zero Tryz.laysNm215 a c w) xs hx (by decide)
noncomputable def zff(d:Unit):Option (Unit):=some d
noncomputable def zhq:Unit->Option (Unit):=zah zff
theorem zhZ(d:Unit):zhq d=zff d:=congrFun (zad zff) d
noncomputable def zhy:TE:=⟨85,[.mpb 0 0],[.box bdB [.nilp,.e0]],(.tup []),[.box bdB [.mpb 0 0,.e0]],zhq⟩
theorem zqz:EOk Tryz.prog zhy:=zy3 (fun d=>by rw[zhZ];rfl) (zuF Tryz.call85 fun b w h1 h2 h3=>Any.Builder_copyCheck_fresh {Tryz.lays156 with} Tryz.Builder_Extra_156.toX72 b w h1 h2 h3)
noncomputable def zcj(d:List Int):Option (List Int):=some d
noncomputable def zdN:List Int->Option (List Int):=zah zcj
theorem zeM(d:List Int):zdN d=zcj d:=congrFun (zad zcj) d
noncomputable def zdT:TE:=⟨85,[.mpb 0 0],[.box bdB [.mpb 0 0,.own 1],.arr (.int .u8) .no],(.tup []),[.box bdB [.mpb 0 0,.own 1],.arr (.int .u8) .no],zdN⟩
theorem zlN:EOk Tryz.prog zdT:=zy4 (fun d=>by rw[zeM];rfl) (zxr Tryz.call85 fun b w h1=>Any.Builder_copyCheck_used {Tryz.lays156 with} Tryz.Builder_Extra_156.toX72 b w h1)
noncomputable def zil(d:List Int):Option (List UInt8):=gd (decide (0<d.length)) (some (d.map znu))
noncomputable def zim:List Int->Option (List UInt8):=zah zil
theorem zk2(d:List Int):zim d=zil d:=congrFun (zad zil) d
noncomputable def zlt:TE:=⟨52,[.mpb 0 0],[.box bdB [.mpb 0 0,.own 1],.arr (.int .u8) .no],.str,[.dead,.dead],zim⟩
theorem zu9:EOk Tryz.prog zlt:=zC8 (fun d=>by rw[zk2];rfl) (zvK Tryz.call52 fun b g cap l cur w h1 h2 h3 h4 h5 h6 h7=>(Any.String_exact {Tryz.lays156 with} Tryz.Builder_Extra_156 b g cap l cur w h1 h2 h3 h4 h5 (by unfold BIG at h6;omega) h7).mono fun e w' ⟨he,hw⟩=>⟨he,by subst hw;exact froze_all w g _⟩)
end Go.Fw
namespace Go.Fw
noncomputable section
open Go
set_option maxRecDepth 1000000
set_option linter.unusedVariables false
def zei(d:List (List UInt8)×Int):Option Int:=gd (zas (d.2-(d.1.length:Int))) (zab (decide (d.2-(d.1.length:Int)<0)) (some (-1)) (zaa (zam (fun(s:Int×Int)=>zab (decide (s.2<(d.1.length:Int))) (gd (decide (0<=s.2)) (zaa d.1[s.2.toNat]? fun x=>gd (zas (s.1-(x.length:Int))) (zab (decide (s.1-(x.length:Int)<0)) (some (Sum.inr (Sum.inr (-1)))) (gd (zas (s.2+1)) (some (Sum.inl (s.1-(x.length:Int),s.2+1))))))) (some (Sum.inr (Sum.inl (s.1,s.2))))) (d.2-(d.1.length:Int),0)) fun(x:Int×Int⊕Int)=>zat x (fun d=>some d.1) fun r=>some r))
def zev:List (List UInt8)×Int->Option Int:=zah zei
theorem zi6(d:List (List UInt8)×Int):zev d=zei d:=congrFun (zad zei) d
def ziC:TE:=⟨157,[.lst .str,.int .i64],[],(.int .i64),[],zev⟩
theorem zsX(d:List (List UInt8)×Int):zaj [] zFQ zJf [.t 4] [.lst .str,.int .i64] [] (.int .i64) [] d=zev d:=Eq.trans (b:=zei d) (by kernel_rfl) (zi6 d).symm
def zgw(d:Field×Int):Option Int:=gd (zas (d.2-(d.1.name.length:Int))) (zab (decide (d.2-(d.1.name.length:Int)<0)) (some (-1)) (gd (zas (d.2-(d.1.name.length:Int)-(d.1.of.length:Int))) (zab (decide (d.2-(d.1.name.length:Int)-(d.1.of.length:Int)<0)) (some (-1)) (zaa (zev (d.1.needs,d.2-(d.1.name.length:Int)-(d.1.of.length:Int))) fun x=>zab (decide (x<0)) (some (-1)) (some x)))))
def zeV:Field×Int->Option Int:=zah zgw
theorem zk6(d:Field×Int):zeV d=zgw d:=congrFun (zad zgw) d
def zlx:TE:=⟨151,[.st .Field,.int .i64],[],(.int .i64),[],zeV⟩
theorem zv7(d:Field×Int):zaj [ziC] zFN zJc [.t 4] [.st .Field,.int .i64] [] (.int .i64) [] d=zeV d:=Eq.trans (b:=zgw d) (by kernel_rfl) (zk6 d).symm
def zfs(d:List Field×Int):Option Int:=gd (zas (d.2-(d.1.length:Int))) (zab (decide (d.2-(d.1.length:Int)<0)) (some (-1)) (zaa (zam (fun(s:Int×Int)=>zab (decide (s.2<(d.1.length:Int))) (gd (decide (0<=s.2)) (zaa d.1[s.2.toNat]? fun x=>zaa (zeV (x,s.1)) fun x=>zab (decide (x<0)) (some (Sum.inr (Sum.inr (-1)))) (gd (zas (s.2+1)) (some (Sum.inl (x,s.2+1)))))) (some (Sum.inr (Sum.inl (s.1,s.2))))) (d.2-(d.1.length:Int),0)) fun(x:Int×Int⊕Int)=>zat x (fun d=>some d.1) fun r=>some r))
def zfC:List Field×Int->Option Int:=zah zfs
theorem zjL(d:List Field×Int):zfC d=zfs d:=congrFun (zad zfs) d
def zjQ:TE:=⟨135,[.lst (.nm .Field),.int .i64],[],(.int .i64),[],zfC⟩
theorem zur(d:List Field×Int):zaj [zlx] zFF zI4 [.t 4] [.lst (.nm .Field),.int .i64] [] (.int .i64) [] d=zfC d:=Eq.trans (b:=zfs d) (by kernel_rfl) (zjL d).symm
def zhN(d:Typ×Int):Option Int:=gd (zas (d.2-(d.1.name.length:Int))) (zab (decide (d.2-(d.1.name.length:Int)<0)) (some (-1)) (gd (zas (d.2-(d.1.name.length:Int)-(d.1.key.length:Int))) (zab (decide (d.2-(d.1.name.length:Int)-(d.1.key.length:Int)<0)) (some (-1)) (zaa (zfC (d.1.fields,d.2-(d.1.name.length:Int)-(d.1.key.length:Int))) fun x=>zab (decide (x<0)) (some (-1)) (some x)))))
def zgl:Typ×Int->Option Int:=zah zhN
theorem zml(d:Typ×Int):zgl d=zhN d:=congrFun (zad zhN) d
def znj:TE:=⟨104,[.st .Typ,.int .i64],[],(.int .i64),[],zgl⟩
theorem zyH(d:Typ×Int):zaj [zjQ] zFk zIJ [.t 4] [.st .Typ,.int .i64] [] (.int .i64) [] d=zgl d:=Eq.trans (b:=zhN d) (by kernel_rfl) (zml d).symm
def zgy(d:List Typ×Int):Option Int:=gd (zas (d.2-(d.1.length:Int))) (zab (decide (d.2-(d.1.length:Int)<0)) (some (-1)) (zaa (zam (fun(s:Int×Int)=>zab (decide (s.2<(d.1.length:Int))) (gd (decide (0<=s.2)) (zaa d.1[s.2.toNat]? fun x=>zaa (zgl (x,s.1)) fun x=>zab (decide (x<0)) (some (Sum.inr (Sum.inr (-1)))) (gd (zas (s.2+1)) (some (Sum.inl (x,s.2+1)))))) (some (Sum.inr (Sum.inl (s.1,s.2))))) (d.2-(d.1.length:Int),0)) fun(x:Int×Int⊕Int)=>zat x (fun d=>some d.1) fun r=>some r))
def zgO:List Typ×Int->Option Int:=zah zgy
theorem zk8(d:List Typ×Int):zgO d=zgy d:=congrFun (zad zgy) d
def zlz:TE:=⟨75,[.lst (.nm .Typ),.int .i64],[],(.int .i64),[],zgO⟩
theorem zv9(d:List Typ×Int):zaj [znj] zJZ c75 [.t 4] [.lst (.nm .Typ),.int .i64] [] (.int .i64) [] d=zgO d:=Eq.trans (b:=zgy d) (by kernel_rfl) (zk8 d).symm
def zhM(d:Part×Int):Option Int:=gd (zas (d.2-(d.1.name.length:Int))) (zab (decide (d.2-(d.1.name.length:Int)<0)) (some (-1)) (zaa (zgO (d.1.types,d.2-(d.1.name.length:Int))) fun x=>zab (decide (x<0)) (some (-1)) (some x)))
def zgk:Part×Int->Option Int:=zah zhM
theorem zmk(d:Part×Int):zgk d=zhM d:=congrFun (zad zhM) d
def zni:TE:=⟨34,[.st .Part,.int .i64],[],(.int .i64),[],zgk⟩
theorem zyG(d:Part×Int):zaj [zlz] zJA c34 [.t 4] [.st .Part,.int .i64] [] (.int .i64) [] d=zgk d:=Eq.trans (b:=zhM d) (by kernel_rfl) (zmk d).symm
def zgx(d:List Part×Int):Option Int:=gd (zas (d.2-(d.1.length:Int))) (zab (decide (d.2-(d.1.length:Int)<0)) (some (-1)) (zaa (zam (fun(s:Int×Int)=>zab (decide (s.2<(d.1.length:Int))) (gd (decide (0<=s.2)) (zaa d.1[s.2.toNat]? fun x=>zaa (zgk (x,s.1)) fun x=>zab (decide (x<0)) (some (Sum.inr (Sum.inr (-1)))) (gd (zas (s.2+1)) (some (Sum.inl (x,s.2+1)))))) (some (Sum.inr (Sum.inl (s.1,s.2))))) (d.2-(d.1.length:Int),0)) fun(x:Int×Int⊕Int)=>zat x (fun d=>some d.1) fun r=>some r))
def zeW:List Part×Int->Option Int:=zah zgx
theorem zk7(d:List Part×Int):zeW d=zgx d:=congrFun (zad zgx) d
def zly:TE:=⟨12,[.lst (.nm .Part),.int .i64],[],(.int .i64),[],zeW⟩
theorem zv8(d:List Part×Int):zaj [zni] zJj c12 [.t 4] [.lst (.nm .Part),.int .i64] [] (.int .i64) [] d=zeW d:=Eq.trans (b:=zgx d) (by kernel_rfl) (zk7 d).symm
def zej(d:List (List UInt8)):Option (List (List UInt8)):=gd (decide (0<=(d.length:Int))&&decide ((d.length:Int)<=(↑LIM:Int))) (zaa (zam (fun(s:Int×List (List UInt8))=>zab (decide (s.1<(d.length:Int))) (gd (decide (0<=s.1)) (zaa d[s.1.toNat]? fun x=>gd (decide (0<=s.1)&&decide (s.1<(s.2.length:Int))) (zaa s.2[s.1.toNat]? fun x_1=>gd (zas (s.1+1)) (some (Sum.inl (s.1+1,List.set s.2 (s.1.toNat) x)))))) (some (Sum.inr (s.1,s.2)))) (0,List.replicate (Int.toNat (d.length:Int)) [])) fun(x:Int×List (List UInt8))=>some x.2)
def zew:List (List UInt8)->Option (List (List UInt8)):=zah zej
theorem zi7(d:List (List UInt8)):zew d=zej d:=congrFun (zad zej) d
def ziD:TE:=⟨158,[.lst .str],[],(.own 0),[.arr .str .no],zew⟩
theorem zsY(d:List (List UInt8)):zaj [] zFR zJg [.t 2] [.lst .str] [] (.own 0) [.arr .str .no] d=zew d:=Eq.trans (b:=zej d) (by kernel_rfl) (zi7 d).symm
def zgz(d:Field):Option ((List UInt8×List UInt8×Bool×Bool×Bool×Bool×Bool)×List (List UInt8)):=zaa (zew d.needs) fun x=>some ((d.name,d.of,d.list,d.must,d.far,d.hidden,d.shared),x)
def zeX:Field->Option ((List UInt8×List UInt8×Bool×Bool×Bool×Bool×Bool)×List (List UInt8)):=zah zgz
theorem zk9(d:Field):zeX d=zgz d:=congrFun (zad zgz) d
def zlA:TE:=⟨152,[.st .Field],[],(.agg [.str,.str,.bool,.bool,.bool,.bool,.bool,.own 0]),[.arr .str .no],zeX⟩
theorem zwa(d:Field):zaj [ziD] zFO zJd [.c 2 (some 8)] [.st .Field] [] (.agg [.str,.str,.bool,.bool,.bool,.bool,.bool,.own 0]) [.arr .str .no] d=zeX d:=Eq.trans (b:=zgz d) (by kernel_rfl) (zk9 d).symm
def zft(d:List Field):Option (List Field):=gd (decide (0<=(d.length:Int))&&decide ((d.length:Int)<=(↑LIM:Int))) (zaa (zam (fun(s:Int×List Field)=>zab (decide (s.1<(d.length:Int))) (gd (decide (0<=s.1)) (zaa d[s.1.toNat]? fun x=>zaa (zeX x) fun(x:(List UInt8×List UInt8×Bool×Bool×Bool×Bool×Bool)×List (List UInt8))=>gd (decide (0<=s.1)&&decide (s.1<(s.2.length:Int))) (zaa s.2[s.1.toNat]? fun x_1=>gd (zas (s.1+1)) (some (Sum.inl (s.1+1,List.set s.2 (s.1.toNat) {name:=x.1.1,of:=x.1.2.1,list:=x.1.2.2.1,must:=x.1.2.2.2.1,far:=x.1.2.2.2.2.1,hidden:=x.1.2.2.2.2.2.1,shared:=x.1.2.2.2.2.2.2,needs:=x.2:Field})))))) (some (Sum.inr (s.1,s.2)))) (0,List.replicate (Int.toNat (d.length:Int)) {name:=[],of:=[],list:=false,must:=false,far:=false,hidden:=false,shared:=false,needs:=[]:Field})) fun(x:Int×List Field)=>some x.2)
def zfD:List Field->Option (List Field):=zah zft
theorem zjM(d:List Field):zfD d=zft d:=congrFun (zad zft) d
def zjR:TE:=⟨136,[.lst (.nm .Field)],[],(.own 0),[.arr (.nm .Field) (.at [(7,.no)])],zfD⟩
theorem zus(d:List Field):zaj [zlA] zFG zI5 [.t 2] [.lst (.nm .Field)] [] (.own 0) [.arr (.nm .Field) (.at [(7,.no)])] d=zfD d:=Eq.trans (b:=zft d) (by kernel_rfl) (zjM d).symm
def zhP(d:Typ):Option ((List UInt8×List UInt8)×List Field):=zaa (zfD d.fields) fun x=>some ((d.name,d.key),x)
def zgn:Typ->Option ((List UInt8×List UInt8)×List Field):=zah zhP
theorem zmn(d:Typ):zgn d=zhP d:=congrFun (zad zhP) d
def znl:TE:=⟨105,[.st .Typ],[],(.agg [.str,.str,.own 0]),[.arr (.nm .Field) (.at [(7,.no)])],zgn⟩
theorem zyJ(d:Typ):zaj [zjR] zFl zIK [.c 2 (some 3)] [.st .Typ] [] (.agg [.str,.str,.own 0]) [.arr (.nm .Field) (.at [(7,.no)])] d=zgn d:=Eq.trans (b:=zhP d) (by kernel_rfl) (zmn d).symm
def zgB(d:List Typ):Option (List Typ):=gd (decide (0<=(d.length:Int))&&decide ((d.length:Int)<=(↑LIM:Int))) (zaa (zam (fun(s:Int×List Typ)=>zab (decide (s.1<(d.length:Int))) (gd (decide (0<=s.1)) (zaa d[s.1.toNat]? fun x=>zaa (zgn x) fun(x:(List UInt8×List UInt8)×List Field)=>gd (decide (0<=s.1)&&decide (s.1<(s.2.length:Int))) (zaa s.2[s.1.toNat]? fun x_1=>gd (zas (s.1+1)) (some (Sum.inl (s.1+1,List.set s.2 (s.1.toNat) {name:=x.1.1,key:=x.1.2,fields:=x.2:Typ})))))) (some (Sum.inr (s.1,s.2)))) (0,List.replicate (Int.toNat (d.length:Int)) {name:=[],key:=[],fields:=[]:Typ})) fun(x:Int×List Typ)=>some x.2)
def zgP:List Typ->Option (List Typ):=zah zgB
theorem zlb(d:List Typ):zgP d=zgB d:=congrFun (zad zgB) d
def zlC:TE:=⟨76,[.lst (.nm .Typ)],[],(.own 0),[.arr (.nm .Typ) (.at [(2,.at [(7,.no)])])],zgP⟩
theorem zwc(d:List Typ):zaj [znl] zJ0 c76 [.t 2] [.lst (.nm .Typ)] [] (.own 0) [.arr (.nm .Typ) (.at [(2,.at [(7,.no)])])] d=zgP d:=Eq.trans (b:=zgB d) (by kernel_rfl) (zlb d).symm
def zhO(d:Part):Option (List UInt8×List Typ):=zaa (zgP d.types) fun x=>some (d.name,x)
def zgm:Part->Option (List UInt8×List Typ):=zah zhO
theorem zmm(d:Part):zgm d=zhO d:=congrFun (zad zhO) d
def znk:TE:=⟨35,[.st .Part],[],(.agg [.str,.own 0]),[.arr (.nm .Typ) (.at [(2,.at [(7,.no)])])],zgm⟩
theorem zyI(d:Part):zaj [zlC] zJB c35 [.c 2 (some 2)] [.st .Part] [] (.agg [.str,.own 0]) [.arr (.nm .Typ) (.at [(2,.at [(7,.no)])])] d=zgm d:=Eq.trans (b:=zhO d) (by kernel_rfl) (zmm d).symm
def zgA(d:List Part):Option (List Part):=gd (decide (0<=(d.length:Int))&&decide ((d.length:Int)<=(↑LIM:Int))) (zaa (zam (fun(s:Int×List Part)=>zab (decide (s.1<(d.length:Int))) (gd (decide (0<=s.1)) (zaa d[s.1.toNat]? fun x=>zaa (zgm x) fun(x:List UInt8×List Typ)=>gd (decide (0<=s.1)&&decide (s.1<(s.2.length:Int))) (zaa s.2[s.1.toNat]? fun x_1=>gd (zas (s.1+1)) (some (Sum.inl (s.1+1,List.set s.2 (s.1.toNat) {name:=x.1,types:=x.2:Part})))))) (some (Sum.inr (s.1,s.2)))) (0,List.replicate (Int.toNat (d.length:Int)) {name:=[],types:=[]:Part})) fun(x:Int×List Part)=>some x.2)
def zbi:List Part->Option (List Part):=zah zgA
theorem zla(d:List Part):zbi d=zgA d:=congrFun (zad zgA) d
def zlB:TE:=⟨13,[.lst (.nm .Part)],[],(.own 0),[.arr (.nm .Part) (.at [(1,.at [(2,.at [(7,.no)])])])],zbi⟩
theorem zwb(d:List Part):zaj [znk] zJk c13 [.t 2] [.lst (.nm .Part)] [] (.own 0) [.arr (.nm .Part) (.at [(1,.at [(2,.at [(7,.no)])])])] d=zbi d:=Eq.trans (b:=zgA d) (by kernel_rfl) (zla d).symm
def zs3(d:Int×Int×Int):Option Bool:=zaa (zab (decide (d.1>=d.2.1)) (some (decide (d.1<=d.2.2))) (some false)) fun x=>some x
def zs5:Int×Int×Int->Option Bool:=zah zs3
theorem zs6(d:Int×Int×Int):zs5 d=zs3 d:=congrFun (zad zs3) d
def zzi:TE:=⟨146,[.int .i64,.int .i64,.int .i64],[],(.bool),[],zs5⟩
theorem zGX(d:Int×Int×Int):zaj [] zFI zI7 [.t 6] [.int .i64,.int .i64,.int .i64] [] (.bool) [] d=zs5 d:=Eq.trans (b:=zs3 d) (by kernel_rfl) (zs6 d).symm
def zl4(d:List UInt8):Option Bool:=zaa (zs5 ((d.length:Int),1,9)) fun x=>zab (!x) (some false) (zaa (zam (fun(s:Int)=>zab (decide (s<(d.length:Int))) (zaa (gd (decide (0<=s)) (zaa d[s.toNat]? fun x=>zab (decide (zaF x>=97)) (gd (decide (0<=s)) (zaa d[s.toNat]? fun x=>zab (decide (zaF x<=122)) (some false) (gd (decide (0<=s)) (zaa d[s.toNat]? fun x=>zab (zaF x==95) (some false) (zab (decide (s>0)) (gd (decide (0<=s)) (zaa d[s.toNat]? fun x=>zab (decide (zaF x>=48)) (gd (decide (0<=s)) (zaa d[s.toNat]? fun x=>some !decide (zaF x<=57))) (some true))) (some true)))))) (gd (decide (0<=s)) (zaa d[s.toNat]? fun x=>zab (zaF x==95) (some false) (zab (decide (s>0)) (gd (decide (0<=s)) (zaa d[s.toNat]? fun x=>zab (decide (zaF x>=48)) (gd (decide (0<=s)) (zaa d[s.toNat]? fun x=>some !decide (zaF x<=57))) (some true))) (some true)))))) fun x=>zab x (some (Sum.inr (Sum.inr false))) (gd (zas (s+1)) (some (Sum.inl (s+1))))) (some (Sum.inr (Sum.inl s)))) 0) fun(x:Int⊕Bool)=>zat x (fun d=>some true) fun r=>some r)
def zme:List UInt8->Option Bool:=zah zl4
theorem zoZ(d:List UInt8):zme d=zl4 d:=congrFun (zad zl4) d
def zrF:TE:=⟨118,[.str],[],(.bool),[],zme⟩
theorem zCn(d:List UInt8):zaj [zzi] zFp zIO [.t 2] [.str] [] (.bool) [] d=zme d:=Eq.trans (b:=zl4 d) (by kernel_rfl) (zoZ d).symm
def zhI(d:List UInt8):Option Bool:=zaa (zab (d==[105,110,116]) (some true) (zab (d==[116,101,120,116]) (some true) (some (d==[98,111,111,108])))) fun x=>some x
def zeQ:List UInt8->Option Bool:=zah zhI
theorem zmg(d:List UInt8):zeQ d=zhI d:=congrFun (zad zhI) d
def zh6:TE:=⟨119,[.str],[],(.bool),[],zeQ⟩
theorem zyC(d:List UInt8):zaj [] zFq zIP [.t 2] [.str] [] (.bool) [] d=zeQ d:=Eq.trans (b:=zhI d) (by kernel_rfl) (zmg d).symm
def zl6(d:List UInt8):Option Bool:=zaa (zaa (zme d) fun x=>zab x (zab (decide ((d.length:Int)<=8)) (zaa d[Int.toNat 0]? fun x=>zab (zaF x !=95) (zaa (zeQ d) fun x=>zab (!x) (zab (d !=[112,97,114,116]) (zab (d !=[116,121,112,101]) (zab (d !=[107,101,121]) (zab (d !=[102,97,114]) (zab (d !=[104,105,100,100,101,110]) (zab (d !=[115,104,97,114,101,100]) (some (d !=[110,101,101,100,115])) (some false)) (some false)) (some false)) (some false)) (some false)) (some false)) (some false)) (some false)) (some false)) (some false)) fun x=>some x
def zfg:List UInt8->Option Bool:=zah zl6
theorem zo2(d:List UInt8):zfg d=zl6 d:=congrFun (zad zl6) d
def zmu:TE:=⟨90,[.str],[],(.bool),[],zfg⟩
theorem zCp(d:List UInt8):zaj [zrF,zh6] zJ6 c90 [.t 2] [.str] [] (.bool) [] d=zfg d:=Eq.trans (b:=zl6 d) (by kernel_rfl) (zo2 d).symm
def zl7(d:Part×List UInt8):Option Int:=zaa (zam (fun(s:Int)=>zab (decide (s<(d.1.types.length:Int))) (gd (decide (0<=s)) (zaa d.1.types[s.toNat]? fun x=>zab (x.name==d.2) (some (Sum.inr (Sum.inr s))) (gd (zas (s+1)) (some (Sum.inl (s+1)))))) (some (Sum.inr (Sum.inl s)))) 0) fun(x:Int⊕Int)=>zat x (fun d=>some (-1)) fun r=>some r
def zfh:Part×List UInt8->Option Int:=zah zl7
theorem zo3(d:Part×List UInt8):zfh d=zl7 d:=congrFun (zad zl7) d
def zf6:TE:=⟨57,[.st .Part,.str],[],(.int .i64),[],zfh⟩
theorem zCq(d:Part×List UInt8):zaj [] zJL c57 [.t 4] [.st .Part,.str] [] (.int .i64) [] d=zfh d:=Eq.trans (b:=zl7 d) (by kernel_rfl) (zo3 d).symm
def zjq(d:Typ×List UInt8):Option Int:=zaa (zam (fun(s:Int)=>zab (decide (s<(d.1.fields.length:Int))) (gd (decide (0<=s)) (zaa d.1.fields[s.toNat]? fun x=>zab (x.name==d.2) (some (Sum.inr (Sum.inr s))) (gd (zas (s+1)) (some (Sum.inl (s+1)))))) (some (Sum.inr (Sum.inl s)))) 0) fun(x:Int⊕Int)=>zat x (fun d=>some (-1)) fun r=>some r
def zeo:Typ×List UInt8->Option Int:=zah zjq
theorem zn1(d:Typ×List UInt8):zeo d=zjq d:=congrFun (zad zjq) d
def zc1:TE:=⟨58,[.st .Typ,.str],[],(.int .i64),[],zeo⟩
theorem zA5(d:Typ×List UInt8):zaj [] zJM c58 [.t 4] [.st .Typ,.str] [] (.int .i64) [] d=zeo d:=Eq.trans (b:=zjq d) (by kernel_rfl) (zn1 d).symm
def zoV(d:Typ):Option Bool:=zab (d.key==[]) (some true) (zaa (zeo (d,d.key)) fun x=>zab (decide (x<0)) (some false) (gd (decide (0<=x)) (zaa d.fields[x.toNat]? fun x=>zaa (zab (x.of==[105,110,116]) (zab (!x.list) (zab x.must (zab (!x.far) (zab (!x.hidden) (some ((x.needs.length:Int)==0)) (some false)) (some false)) (some false)) (some false)) (some false)) fun x=>some x)))
def zo0:Typ->Option Bool:=zah zoV
theorem zqR(d:Typ):zo0 d=zoV d:=congrFun (zad zoV) d
def zuK:TE:=⟨120,[.st .Typ],[],(.bool),[],zo0⟩
theorem zER(d:Typ):zaj [zc1] zFr zIQ [.t 2] [.st .Typ] [] (.bool) [] d=zo0 d:=Eq.trans (b:=zoV d) (by kernel_rfl) (zqR d).symm
def zjr(d:Typ×Field):Option Bool:=zaa (zab (decide ((d.2.needs.length:Int)>0)) (zab (d.2.of !=[105,110,116]) (some true) (zab d.2.list (some true) (zab d.2.far (some true) (zab d.2.must (some true) (zab (d.1.key==[]) (some true) (some (d.2.name==d.1.key))))))) (some false)) fun x=>zab x (some false) (zaa (zam (fun(s:Int)=>zab (decide (s<(d.2.needs.length:Int))) (gd (decide (0<=s)) (zaa d.2.needs[s.toNat]? fun x=>zaa (zeo (d.1,x)) fun x=>zaa (zab (decide (x<0)) (some true) (gd (decide (0<=x)) (zaa d.1.fields[x.toNat]? fun x_1=>zab (decide ((x_1.needs.length:Int)>0)) (some true) (gd (decide (0<=x)) (zaa d.1.fields[x.toNat]? fun x_2=>zab (x_2.of !=[105,110,116]) (some true) (gd (decide (0<=x)) (zaa d.1.fields[x.toNat]? fun x=>zab x.list (some true) (zab (decide (s>0)) (gd (zas (s-1)) (gd (decide (0<=s-1)) (zaa d.2.needs[Int.toNat (s-1)]? fun x=>gd (decide (0<=s)) (zaa d.2.needs[s.toNat]? fun x_3=>some !Op.bytesLess x x_3)))) (some false))))))))) fun x=>zab x (some (Sum.inr (Sum.inr false))) (gd (zas (s+1)) (some (Sum.inl (s+1)))))) (some (Sum.inr (Sum.inl s)))) 0) fun(x:Int⊕Bool)=>zat x (fun d=>some true) fun r=>some r)
def zjE:Typ×Field->Option Bool:=zah zjr
theorem zn2(d:Typ×Field):zjE d=zjr d:=congrFun (zad zjr) d
def zpf:TE:=⟨121,[.st .Typ,.st .Field],[],(.bool),[],zjE⟩
theorem zA6(d:Typ×Field):zaj [zc1] zFs zIR [.t 4] [.st .Typ,.st .Field] [] (.bool) [] d=zjE d:=Eq.trans (b:=zjr d) (by kernel_rfl) (zn2 d).symm
def zjp(d:Part×Int):Option Int:=gd (decide (0<=d.2)) (zaa d.1.types[d.2.toNat]? fun x=>zaa (zaa (zfg x.name) fun x_1=>zab (!x_1) (some true) (zab (x.key !=[]) (zaa (zfg x.key) fun x_2=>zab (!x_2) (some true) (zab ((x.fields.length:Int)==0) (some true) (some (decide ((x.fields.length:Int)>8))))) (zab ((x.fields.length:Int)==0) (some true) (some (decide ((x.fields.length:Int)>8)))))) fun x_1=>zab x_1 (some 1) (zaa (zam (fun(s:Int)=>zab (decide (s<(x.fields.length:Int))) (gd (decide (0<=s)) (zaa x.fields[s.toNat]? fun x=>zaa (zaa (zfg x.name) fun x_2=>zab (!x_2) (some true) (zaa (zeQ x.of) fun x_3=>zab (!x_3) (zaa (zfg x.of) fun x=>some !x) (some false))) fun x_2=>zab x_2 (some (Sum.inr (Sum.inr 1))) (zaa (zam (fun(s:Int)=>zab (decide (s<(x.needs.length:Int))) (gd (decide (0<=s)) (zaa x.needs[s.toNat]? fun x=>zaa (zfg x) fun x=>zab (!x) (some (Sum.inr (Sum.inr (Sum.inr (Sum.inr 1))))) (gd (zas (s+1)) (some (Sum.inl (s+1)))))) (some (Sum.inr (Sum.inl s)))) 0) fun(x:Int⊕Int⊕Int⊕Int)=>zat x (fun d=>gd (zas (s+1)) (some (Sum.inl (s+1)))) fun r=>some r))) (some (Sum.inr (Sum.inl s)))) 0) fun(x_2:Int⊕Int)=>zat x_2 (fun d_1=>zaa (zfh (d.1,x.name)) fun x_3=>zab (x_3 !=d.2) (some 2) (zaa (zam (fun(s:Int)=>zab (decide (s<(x.fields.length:Int))) (gd (decide (0<=s)) (zaa x.fields[s.toNat]? fun x_4=>zaa (zeo (x,x_4.name)) fun x=>zab (x !=s) (some (Sum.inr (Sum.inr 2))) (gd (zas (s+1)) (some (Sum.inl (s+1)))))) (some (Sum.inr (Sum.inl s)))) 0) fun(x_4:Int⊕Int)=>zat x_4 (fun d_2=>zaa (zam (fun(s:Int)=>zab (decide (s<(x.fields.length:Int))) (zaa (gd (decide (0<=s)) (zaa x.fields[s.toNat]? fun x_5=>zaa (zeQ x_5.of) fun x_6=>zab (!x_6) (gd (decide (0<=s)) (zaa x.fields[s.toNat]? fun x=>zaa (zfh (d.1,x.of)) fun x=>some (decide (x<0)))) (some false))) fun x=>zab x (some (Sum.inr (Sum.inr 3))) (gd (zas (s+1)) (some (Sum.inl (s+1))))) (some (Sum.inr (Sum.inl s)))) 0) fun(x_5:Int⊕Int)=>zat x_5 (fun d=>zaa (zo0 x) fun x_6=>zab (!x_6) (some 4) (zaa (zam (fun(s:Int)=>zab (decide (s<(x.fields.length:Int))) (zaa (gd (decide (0<=s)) (zaa x.fields[s.toNat]? fun x_7=>zaa (zjE (x,x_7)) fun x_8=>zab (!x_8) (some true) (gd (decide (0<=s)) (zaa x.fields[s.toNat]? fun x_9=>zab x_9.far (gd (decide (0<=s)) (zaa x.fields[s.toNat]? fun x=>some x.shared)) (some false))))) fun x=>zab x (some (Sum.inr (Sum.inr 5))) (gd (zas (s+1)) (some (Sum.inl (s+1))))) (some (Sum.inr (Sum.inl s)))) 0) fun(x:Int⊕Int)=>zat x (fun d=>some 0) fun r=>some r)) fun r=>some r) fun r=>some r)) fun r=>some r))
def zjD:Part×Int->Option Int:=zah zjp
theorem zn0(d:Part×Int):zjD d=zjp d:=congrFun (zad zjp) d
def zpe:TE:=⟨91,[.st .Part,.int .i64],[],(.int .i64),[],zjD⟩
theorem zA4(d:Part×Int):zaj [zmu,zh6,zf6,zc1,zuK,zpf] zJ7 c91 [.t 4] [.st .Part,.int .i64] [] (.int .i64) [] d=zjD d:=Eq.trans (b:=zjp d) (by kernel_rfl) (zn0 d).symm
def zl5(d:Field):Option (List UInt8):=zaa (zab d.list (gd (decide (List.length [91]+List.length d.of<=BIG)) (gd (decide (List.length ([91]++d.of)+List.length [93]<=BIG)) (some ([91]++d.of++[93])))) (some d.of)) fun x=>zaa (zab d.must (gd (decide (List.length x+List.length [33]<=BIG)) (some (x++[33]))) (some x)) fun x=>gd (decide (List.length [32,32]+List.length d.name<=BIG)) (gd (decide (List.length ([32,32]++d.name)+List.length [32]<=BIG)) (gd (decide (List.length ([32,32]++d.name++[32])+List.length x<=BIG)) (zaa (zab d.far (gd (decide (List.length ([32,32]++d.name++[32]++x)+List.length [32,102,97,114]<=BIG)) (some ([32,32]++d.name++[32]++x++[32,102,97,114]))) (some ([32,32]++d.name++[32]++x))) fun x=>zaa (zab d.hidden (gd (decide (List.length x+List.length [32,104,105,100,100,101,110]<=BIG)) (some (x++[32,104,105,100,100,101,110]))) (some x)) fun x=>zaa (zab d.shared (gd (decide (List.length x+List.length [32,115,104,97,114,101,100]<=BIG)) (some (x++[32,115,104,97,114,101,100]))) (some x)) fun x=>zaa (zab (decide ((d.needs.length:Int)>0)) (gd (decide (List.length x+List.length [32,110,101,101,100,115]<=BIG)) (some (x++[32,110,101,101,100,115]))) (some x)) fun x=>zaa (zam (fun(s:List UInt8×Int)=>zab (decide (s.2<(d.needs.length:Int))) (gd (decide (List.length s.1+List.length [32]<=BIG)) (gd (decide (0<=s.2)) (zaa d.needs[s.2.toNat]? fun x=>gd (decide (List.length (s.1++[32])+List.length x<=BIG)) (gd (zas (s.2+1)) (some (Sum.inl (s.1++[32]++x,s.2+1))))))) (some (Sum.inr (s.1,s.2)))) (x,0)) fun(x:List UInt8×Int)=>gd (decide (List.length x.1+List.length [10]<=BIG)) (some (x.1++[10])))))
def zmf:Field->Option (List UInt8):=zah zl5
theorem zo1(d:Field):zmf d=zl5 d:=congrFun (zad zl5) d
def zrG:TE:=⟨122,[.st .Field],[],(.str),[],zmf⟩
theorem zCo(d:Field):zaj [] zFt zIS [.t 2] [.st .Field] [] (.str) [] d=zmf d:=Eq.trans (b:=zl5 d) (by kernel_rfl) (zo1 d).symm
def zjs(d:Part):Option (List UInt8):=gd (decide (List.length [112,97,114,116,32]+List.length d.name<=BIG)) (gd (decide (List.length ([112,97,114,116,32]++d.name)+List.length [10]<=BIG)) (zaa (zam (fun(s:List UInt8×Int)=>zab (decide (s.2<(d.types.length:Int))) (gd (decide (0<=s.2)) (zaa d.types[s.2.toNat]? fun x=>gd (decide (List.length s.1+List.length [116,121,112,101,32]<=BIG)) (gd (decide (List.length (s.1++[116,121,112,101,32])+List.length x.name<=BIG)) (zaa (zab (x.key !=[]) (gd (decide (List.length (s.1++[116,121,112,101,32]++x.name)+List.length [32,107,101,121,32]<=BIG)) (gd (decide (List.length (s.1++[116,121,112,101,32]++x.name++[32,107,101,121,32])+List.length x.key<=BIG)) (some (s.1++[116,121,112,101,32]++x.name++[32,107,101,121,32]++x.key)))) (some (s.1++[116,121,112,101,32]++x.name))) fun x_1=>gd (decide (List.length x_1+List.length [10]<=BIG)) (zaa (zam (fun(s:List UInt8×Int)=>zab (decide (s.2<(x.fields.length:Int))) (gd (decide (0<=s.2)) (zaa x.fields[s.2.toNat]? fun x=>zaa (zmf x) fun x=>gd (decide (List.length s.1+List.length x<=BIG)) (gd (zas (s.2+1)) (some (Sum.inl (s.1++x,s.2+1)))))) (some (Sum.inr (s.1,s.2)))) (x_1++[10],0)) fun(x:List UInt8×Int)=>gd (zas (s.2+1)) (some (Sum.inl (x.1,s.2+1)))))))) (some (Sum.inr (s.1,s.2)))) ([112,97,114,116,32]++d.name++[10],0)) fun(x:List UInt8×Int)=>some x.1))
def zjF:Part->Option (List UInt8):=zah zjs
theorem zn3(d:Part):zjF d=zjs d:=congrFun (zad zjs) d
def zpg:TE:=⟨92,[.st .Part],[],(.str),[],zjF⟩
theorem zA7(d:Part):zaj [zrG] zJ8 c92 [.t 2] [.st .Part] [] (.str) [] d=zjF d:=Eq.trans (b:=zjs d) (by kernel_rfl) (zn3 d).symm
def zgq(d:Part):Option PFault:=zab (decide ((d.types.length:Int)>5)) (some {pos:=6,code:=6:PFault}) (zaa (zfg d.name) fun x=>zab (!x) (some {pos:=0,code:=1:PFault}) (zaa (zab ((d.types.length:Int)==0) (some true) (zaa d.types[Int.toNat 0]? fun x=>zab (x.name !=[113,117,101,114,121]) (some true) (zaa d.types[Int.toNat 0]? fun x=>some (x.key !=[])))) fun x=>zab x (some {pos:=0,code:=7:PFault}) (zaa (zam (fun(s:Int×Int×Int)=>zab (decide (s.1<(d.types.length:Int))) (zaa (zjD (d,s.1)) fun x=>zab (x !=0) (gd (zas (s.1+1)) (some (Sum.inr (Sum.inr {pos:=s.1+1,code:=x:PFault})))) (zaa (zam (fun(s_1:Int×Int×Int)=>gd (decide (0<=s.1)) (zaa d.types[s.1.toNat]? fun x=>zab (decide (s_1.1<(x.fields.length:Int))) (gd (decide (0<=s.1)) (zaa d.types[s.1.toNat]? fun x=>gd (decide (0<=s_1.1)) (zaa x.fields[s_1.1.toNat]? fun x=>zab (x.of==[113,117,101,114,121]) (gd (zas (s.1+1)) (some (Sum.inr (Sum.inr (Sum.inr (Sum.inr {pos:=s.1+1,code:=7:PFault})))))) (gd (zas (s_1.1+1)) (some (Sum.inl (s_1.1+1,s_1.2.1,s_1.2.2))))))) (some (Sum.inr (Sum.inl (s_1.1,s_1.2.1,s_1.2.2)))))) (0,s.2.1,s.2.2)) fun(x:Int×Int×Int⊕Int×Int×Int⊕Int×Int×Int⊕PFault)=>zat x (fun d=>gd (zas (s.1+1)) (some (Sum.inl (s.1+1,d.2.1,d.2.2)))) fun r=>some r)) (some (Sum.inr (Sum.inl (s.1,s.2.1,s.2.2))))) (0,0,0)) fun(x:Int×Int×Int⊕PFault)=>zat x (fun d_1=>zaa (zjF d) fun x=>zab (decide ((x.length:Int)>1500)) (some {pos:=0,code:=6:PFault}) (some {pos:=0,code:=0:PFault})) fun r=>some r)))
def zeO:Part->Option PFault:=zah zgq
theorem zkY(d:Part):zeO d=zgq d:=congrFun (zad zgq) d
def zgR:TE:=⟨55,[.st .Part],[],(.st .PFault),[],zeO⟩
theorem zv1(d:Part):zaj [zmu,zpe,zpg] zJJ c55 [.c 2 (some 2)] [.st .Part] [] (.st .PFault) [] d=zeO d:=Eq.trans (b:=zgq d) (by kernel_rfl) (zkY d).symm
def zoX(d:List Part×List UInt8):Option (List UInt8):=zaa (zam (fun(s:Int)=>zab (decide (s<(d.1.length:Int))) (gd (decide (0<=s)) (zaa d.1[s.toNat]? fun x=>zaa (zfh (x,d.2)) fun x=>zaa (zab (decide (x>=0)) (gd (decide (0<=s)) (zaa d.1[s.toNat]? fun x_1=>gd (decide (0<=x)) (zaa x_1.types[x.toNat]? fun x=>some (x.key !=[])))) (some false)) fun x_1=>zab x_1 (gd (decide (0<=s)) (zaa d.1[s.toNat]? fun x_2=>gd (decide (0<=x)) (zaa x_2.types[x.toNat]? fun x=>some (Sum.inr (Sum.inr x.key))))) (gd (zas (s+1)) (some (Sum.inl (s+1)))))) (some (Sum.inr (Sum.inl s)))) 0) fun(x:Int⊕List UInt8)=>zat x (fun d=>some []) fun r=>some r
def zlm:List Part×List UInt8->Option (List UInt8):=zah zoX
theorem zqT(d:List Part×List UInt8):zlm d=zoX d:=congrFun (zad zoX) d
def zls:TE:=⟨87,[.lst (.nm .Part),.str],[],(.str),[],zlm⟩
theorem zET(d:List Part×List UInt8):zaj [zf6] zJ3 c87 [.t 4] [.lst (.nm .Part),.str] [] (.str) [] d=zlm d:=Eq.trans (b:=zoX d) (by kernel_rfl) (zqT d).symm
def zoU(d:Part×List UInt8×List UInt8):Option (Field×Bool):=zaa (zfh (d.1,d.2.1)) fun x=>zab (decide (x<0)) (some ({name:=[],of:=[],list:=false,must:=false,far:=false,hidden:=false,shared:=false,needs:=[]:Field},false)) (gd (decide (0<=x)) (zaa d.1.types[x.toNat]? fun x_1=>zaa (zeo (x_1,d.2.2)) fun x_2=>zab (decide (x_2<0)) (some ({name:=[],of:=[],list:=false,must:=false,far:=false,hidden:=false,shared:=false,needs:=[]:Field},false)) (gd (decide (0<=x)) (zaa d.1.types[x.toNat]? fun x=>gd (decide (0<=x_2)) (zaa x.fields[x_2.toNat]? fun x=>some (x,true))))))
def zgI:Part×List UInt8×List UInt8->Option (Field×Bool):=zah zoU
theorem zqQ(d:Part×List UInt8×List UInt8):zgI d=zoU d:=congrFun (zad zoU) d
def zlr:TE:=⟨28,[.st .Part,.str,.str],[],(.tup [.st .Field,.bool]),[],zgI⟩
theorem zEQ(d:Part×List UInt8×List UInt8):zaj [zf6,zc1] zJu c28 [.c 6 (some 8),.t 7] [.st .Part,.str,.str] [] (.tup [.st .Field,.bool]) [] d=zgI d:=Eq.trans (b:=zoU d) (by kernel_rfl) (zqQ d).symm
def zhJ(d:List Part×List UInt8×List UInt8):Option (List Int):=zaa (zam (fun(s:Int×List Int)=>zab (decide (s.1<(d.1.length:Int))) (gd (decide (0<=s.1)) (zaa d.1[s.1.toNat]? fun x=>zaa (zgI (x,d.2.1,d.2.2)) fun(x:Field×Bool)=>zaa (zab x.2 (some !x.1.far) (some false)) fun x=>zaa (zab x (gd (decide (List.length s.2+List.length [s.1]<=LIM)) (some (s.2++[s.1]))) (some s.2)) fun x=>gd (zas (s.1+1)) (some (Sum.inl (s.1+1,x))))) (some (Sum.inr (s.1,s.2)))) (0,[])) fun(x:Int×List Int)=>some x.2
def zeR:List Part×List UInt8×List UInt8->Option (List Int):=zah zhJ
theorem zmh(d:List Part×List UInt8×List UInt8):zeR d=zhJ d:=congrFun (zad zhJ) d
def zeZ:TE:=⟨56,[.lst (.nm .Part),.str,.str],[],(.lst (.int .i64)),[],zeR⟩
theorem zyD(d:List Part×List UInt8×List UInt8):zaj [zlr] zJK c56 [.t 6] [.lst (.nm .Part),.str,.str] [] (.lst (.int .i64)) [] d=zeR d:=Eq.trans (b:=zhJ d) (by kernel_rfl) (zmh d).symm
def zjt(d:Field×Field):Option Bool:=zaa (zab (d.1.of==d.2.of) (zab (d.1.list==d.2.list) (some (d.1.must==d.2.must)) (some false)) (some false)) fun x=>some x
def zjG:Field×Field->Option Bool:=zah zjt
theorem zn4(d:Field×Field):zjG d=zjt d:=congrFun (zad zjt) d
def zph:TE:=⟨117,[.st .Field,.st .Field],[],(.bool),[],zjG⟩
theorem zA8(d:Field×Field):zaj [] zFo zIN [.t 4] [.st .Field,.st .Field] [] (.bool) [] d=zjG d:=Eq.trans (b:=zjt d) (by kernel_rfl) (zn4 d).symm
def zjv(d:List Part×Int×List UInt8×Field):Option Int:=zaa (zeR (d.1,d.2.2.1,d.2.2.2.name)) fun x=>zaa (zam (fun(s:Int×Int×Int)=>zab (decide (s.2.2<(d.1.length:Int))) (gd (decide (0<=s.2.2)) (zaa d.1[s.2.2.toNat]? fun x=>zaa (zgI (x,d.2.2.1,d.2.2.2.name)) fun(x:Field×Bool)=>zaa (zab x.2 (zaa (zjG (d.2.2.2,{name:=x.1.name,of:=x.1.of,list:=x.1.list,must:=x.1.must,far:=x.1.far,hidden:=x.1.hidden,shared:=x.1.shared,needs:=x.1.needs:Field})) fun x=>some !x) (some false)) fun x_1=>zab x_1 (some (Sum.inr (Sum.inr 3))) (zaa (zab x.2 (some x.1.shared) (some false)) fun x_2=>zaa (zab x_2 (gd (zas (s.1+1)) (some (s.1+1))) (some s.1)) fun x_3=>zaa (zab x.2 (some (decide ((x.1.needs.length:Int)>0))) (some false)) fun x=>zaa (zab x (gd (zas (s.2.1+1)) (some (s.2.1+1))) (some s.2.1)) fun x=>gd (zas (s.2.2+1)) (some (Sum.inl (x_3,x,s.2.2+1)))))) (some (Sum.inr (Sum.inl (s.1,s.2.1,s.2.2))))) (0,0,0)) fun(x_1:Int×Int×Int⊕Int)=>zat x_1 (fun d_1=>zab ((x.length:Int)==0) (some 6) (zaa (zab (decide ((x.length:Int)>1)) (zaa (zlm (d.1,d.2.2.1)) fun x_2=>zab (d.2.2.2.name !=x_2) (some (decide (d_1.1<(x.length:Int)))) (some false)) (some false)) fun x_2=>zab x_2 (some 5) (zaa (zab (decide (d_1.2.1>0)) (some (decide ((x.length:Int)>1))) (some false)) fun x=>zab x (some 7) (zaa (zam (fun(s:Int)=>zab (decide (s<(d.2.2.2.needs.length:Int))) (zaa (zam (fun(s_1:Int)=>zab (decide (s_1<(d.1.length:Int))) (gd (decide (0<=s_1)) (zaa d.1[s_1.toNat]? fun x=>gd (decide (0<=s)) (zaa d.2.2.2.needs[s.toNat]? fun x_3=>zaa (zgI (x,d.2.2.1,x_3)) fun(x:Field×Bool)=>zaa (zab x.2 (some (decide ((x.1.needs.length:Int)>0))) (some false)) fun x=>zab x (some (Sum.inr (Sum.inr (Sum.inr (Sum.inr 7))))) (gd (zas (s_1+1)) (some (Sum.inl (s_1+1))))))) (some (Sum.inr (Sum.inl s_1)))) 0) fun(x:Int⊕Int⊕Int⊕Int)=>zat x (fun d=>gd (zas (s+1)) (some (Sum.inl (s+1)))) fun r=>some r) (some (Sum.inr (Sum.inl s)))) 0) fun(x:Int⊕Int)=>zat x (fun d=>some 0) fun r=>some r)))) fun r=>some r
def zjI:List Part×Int×List UInt8×Field->Option Int:=zah zjv
theorem zn6(d:List Part×Int×List UInt8×Field):zjI d=zjv d:=congrFun (zad zjv) d
def zpj:TE:=⟨88,[.lst (.nm .Part),.int .i64,.str,.st .Field],[],(.int .i64),[],zjI⟩
theorem zBa(d:List Part×Int×List UInt8×Field):zaj [zeZ,zlr,zph,zls] zJ4 c88 [.t 8] [.lst (.nm .Part),.int .i64,.str,.st .Field] [] (.int .i64) [] d=zjI d:=Eq.trans (b:=zjv d) (by kernel_rfl) (zn6 d).symm
def zju(d:List Part):Option CFault:=zaa (zab ((d.length:Int)==0) (some true) (some (decide ((d.length:Int)>4)))) fun x=>zab x (some {pos:=0,type:=[],field:=[],code:=8:CFault}) (zaa (zam (fun(s:Int×Int×List UInt8×List UInt8×Int)=>zab (decide (s.1<(d.length:Int))) (gd (decide (0<=s.1)) (zaa d[s.1.toNat]? fun x=>zaa (zeO x) fun x=>zab (x.code !=0) (gd (zas (s.1+1)) (some (Sum.inr (Sum.inr {pos:=s.1+1,type:=[],field:=[],code:=1:CFault})))) (zaa (zam (fun(s_1:Int×Int×List UInt8×List UInt8×Int)=>zab (decide (s_1.1<s.1)) (gd (decide (0<=s_1.1)) (zaa d[s_1.1.toNat]? fun x=>gd (decide (0<=s.1)) (zaa d[s.1.toNat]? fun x_1=>zab (x.name==x_1.name) (gd (zas (s.1+1)) (some (Sum.inr (Sum.inr (Sum.inr (Sum.inr {pos:=s.1+1,type:=[],field:=[],code:=2:CFault})))))) (gd (zas (s_1.1+1)) (some (Sum.inl (s_1.1+1,s_1.2.1,s_1.2.2.1,s_1.2.2.2.1,s_1.2.2.2.2))))))) (some (Sum.inr (Sum.inl (s_1.1,s_1.2.1,s_1.2.2.1,s_1.2.2.2.1,s_1.2.2.2.2))))) (0,s.2.1,s.2.2.1,s.2.2.2.1,s.2.2.2.2)) fun(x:Int×Int×List UInt8×List UInt8×Int⊕Int×Int×List UInt8×List UInt8×Int⊕Int×Int×List UInt8×List UInt8×Int⊕CFault)=>zat x (fun d=>gd (zas (s.1+1)) (some (Sum.inl (s.1+1,d.2.1,d.2.2.1,d.2.2.2.1,d.2.2.2.2)))) fun r=>some r))) (some (Sum.inr (Sum.inl (s.1,s.2.1,s.2.2.1,s.2.2.2.1,s.2.2.2.2))))) (0,0,[],[],0)) fun(x:Int×Int×List UInt8×List UInt8×Int⊕CFault)=>zat x (fun d_1=>zaa (zam (fun(s:Int×Int×List UInt8×List UInt8×Int)=>zab (decide (s.1<(d.length:Int))) (zaa (zam (fun(s_1:Int×Int×List UInt8×List UInt8×Int)=>gd (decide (0<=s.1)) (zaa d[s.1.toNat]? fun x=>zab (decide (s_1.1<(x.types.length:Int))) (gd (decide (0<=s.1)) (zaa d[s.1.toNat]? fun x=>gd (decide (0<=s_1.1)) (zaa x.types[s_1.1.toNat]? fun x=>zaa (zab (x.key !=[]) (zaa (zlm (d,x.name)) fun x_1=>some (x.key !=x_1)) (some false)) fun x_1=>zab x_1 (gd (zas (s.1+1)) (some (Sum.inr (Sum.inr (Sum.inr (Sum.inr {pos:=s.1+1,type:=x.name,field:=[],code:=4:CFault})))))) (zaa (zam (fun(s_2:Int×Int×List UInt8×List UInt8×Int)=>zab (decide (s_2.1<(x.fields.length:Int))) (gd (decide (0<=s_2.1)) (zaa x.fields[s_2.1.toNat]? fun x_2=>zaa (zjI (d,s.1,x.name,x_2)) fun x_3=>zab (x_3 !=0) (gd (zas (s.1+1)) (gd (decide (0<=s_2.1)) (zaa x.fields[s_2.1.toNat]? fun x_4=>some (Sum.inr (Sum.inr (Sum.inr (Sum.inr (Sum.inr (Sum.inr {pos:=s.1+1,type:=x.name,field:=x_4.name,code:=x_3:CFault}))))))))) (gd (zas (s_2.1+1)) (some (Sum.inl (s_2.1+1,s_2.2.1,s_2.2.2.1,s_2.2.2.2.1,s_2.2.2.2.2)))))) (some (Sum.inr (Sum.inl (s_2.1,s_2.2.1,s_2.2.2.1,s_2.2.2.2.1,s_2.2.2.2.2))))) (0,s_1.2.1,s_1.2.2.1,s_1.2.2.2.1,s_1.2.2.2.2)) fun(x:Int×Int×List UInt8×List UInt8×Int⊕Int×Int×List UInt8×List UInt8×Int⊕Int×Int×List UInt8×List UInt8×Int⊕Int×Int×List UInt8×List UInt8×Int⊕Int×Int×List UInt8×List UInt8×Int⊕CFault)=>zat x (fun d=>gd (zas (s_1.1+1)) (some (Sum.inl (s_1.1+1,d.2.1,d.2.2.1,d.2.2.2.1,d.2.2.2.2)))) fun r=>some r)))) (some (Sum.inr (Sum.inl (s_1.1,s_1.2.1,s_1.2.2.1,s_1.2.2.2.1,s_1.2.2.2.2)))))) (0,s.2.1,s.2.2.1,s.2.2.2.1,s.2.2.2.2)) fun(x:Int×Int×List UInt8×List UInt8×Int⊕Int×Int×List UInt8×List UInt8×Int⊕Int×Int×List UInt8×List UInt8×Int⊕CFault)=>zat x (fun d=>gd (zas (s.1+1)) (some (Sum.inl (s.1+1,d.2.1,d.2.2.1,d.2.2.2.1,d.2.2.2.2)))) fun r=>some r) (some (Sum.inr (Sum.inl (s.1,s.2.1,s.2.2.1,s.2.2.2.1,s.2.2.2.2))))) (0,d_1.2.1,d_1.2.2.1,d_1.2.2.2.1,d_1.2.2.2.2)) fun(x:Int×Int×List UInt8×List UInt8×Int⊕CFault)=>zat x (fun d=>some {pos:=0,type:=[],field:=[],code:=0:CFault}) fun r=>some r) fun r=>some r)
def zjH:List Part->Option CFault:=zah zju
theorem zn5(d:List Part):zjH d=zju d:=congrFun (zad zju) d
def zpi:TE:=⟨53,[.lst (.nm .Part)],[],(.st .CFault),[],zjH⟩
theorem zA9(d:List Part):zaj [zgR,zls,zpj] zJH c53 [.c 2 (some 4)] [.lst (.nm .Part)] [] (.st .CFault) [] d=zjH d:=Eq.trans (b:=zju d) (by kernel_rfl) (zn5 d).symm
def zoY(d:Typ×Field):Option Typ:=zaa (zeo ({name:=d.1.name,key:=d.1.key,fields:=d.1.fields:Typ},d.2.name)) fun x=>zab (decide (x<0)) (gd (decide (List.length d.1.fields<=LIM)) (gd (decide (List.length d.2.needs<=LIM)) (gd (decide (List.length d.1.fields+List.length [{name:=d.2.name,of:=d.2.of,list:=d.2.list,must:=d.2.must,far:=false,hidden:=d.2.hidden,shared:=false,needs:=d.2.needs:Field}]<=LIM)) (some {name:=d.1.name,key:=d.1.key,fields:=d.1.fields++[{name:=d.2.name,of:=d.2.of,list:=d.2.list,must:=d.2.must,far:=false,hidden:=d.2.hidden,shared:=false,needs:=d.2.needs:Field}]:Typ})))) (gd (decide (0+List.length d.1.fields<=LIM)) (zaa (zab d.2.hidden (gd (decide (0<=x)&&decide (x<(d.1.fields.length:Int))) (zaa d.1.fields[x.toNat]? fun x_1=>some ((d.1.name,d.1.key,d.1.fields),([],[]),[],List.set d.1.fields (x.toNat) {name:=x_1.name,of:=x_1.of,list:=x_1.list,must:=x_1.must,far:=x_1.far,hidden:=true,shared:=x_1.shared,needs:=x_1.needs:Field}))) (some ((d.1.name,d.1.key,d.1.fields),([],[]),[],d.1.fields))) fun(x_1:(List UInt8×List UInt8×List Field)×(List UInt8×List UInt8)×List Field×List Field)=>zaa (zab (decide ((d.2.needs.length:Int)>0)) (gd (decide (0+List.length d.2.needs<=LIM)) (gd (decide (0<=x)&&decide (x<(x_1.2.2.2.length:Int))) (zaa x_1.2.2.2[x.toNat]? fun x_2=>some ((x_1.1.1,x_1.1.2.1,x_1.1.2.2),(x_1.2.1.1,x_1.2.1.2),x_1.2.2.1,List.set x_1.2.2.2 (x.toNat) {name:=x_2.name,of:=x_2.of,list:=x_2.list,must:=x_2.must,far:=x_2.far,hidden:=x_2.hidden,shared:=x_2.shared,needs:=d.2.needs:Field})))) (some ((x_1.1.1,x_1.1.2.1,x_1.1.2.2),(x_1.2.1.1,x_1.2.1.2),x_1.2.2.1,x_1.2.2.2))) fun(x:(List UInt8×List UInt8×List Field)×(List UInt8×List UInt8)×List Field×List Field)=>some {name:=x.1.1,key:=x.1.2.1,fields:=x.2.2.2:Typ}))
def zo4:Typ×Field->Option Typ:=zah zoY
theorem zqU(d:Typ×Field):zo4 d=zoY d:=congrFun (zad zoY) d
def zuM:TE:=⟨89,[.st .Typ,.st .Field],[],(.st .Typ),[],zo4⟩
theorem zEU(d:Typ×Field):zaj [zc1] zJ5 c89 [.c 4 (some 3)] [.st .Typ,.st .Field] [] (.st .Typ) [] d=zo4 d:=Eq.trans (b:=zoY d) (by kernel_rfl) (zqU d).symm
def zoW(d:List Part):Option Part:=zaa (zam (fun(s:Int×List UInt8×List Typ×List UInt8×List Typ)=>zab (decide (s.1<(d.length:Int))) (zaa (zam (fun(s_1:Int×List UInt8×List Typ×List UInt8×List Typ)=>gd (decide (0<=s.1)) (zaa d[s.1.toNat]? fun x=>zab (decide (s_1.1<(x.types.length:Int))) (gd (decide (0<=s.1)) (zaa d[s.1.toNat]? fun x=>gd (decide (0<=s_1.1)) (zaa x.types[s_1.1.toNat]? fun x=>zaa (zfh ({name:=s_1.2.2.2.1,types:=s_1.2.2.2.2:Part},x.name)) fun x_1=>zaa (zab (decide (x_1<0)) (zaa (zlm (d,x.name)) fun x_2=>gd (decide (List.length s_1.2.2.2.2+List.length [{name:=x.name,key:=x_2,fields:=[]:Typ}]<=LIM)) (some ((s_1.2.2.2.2.length:Int),s_1.2.1,s_1.2.2.1,s_1.2.2.2.1,s_1.2.2.2.2++[{name:=x.name,key:=x_2,fields:=[]:Typ}]))) (some (x_1,s_1.2.1,s_1.2.2.1,s_1.2.2.2.1,s_1.2.2.2.2))) fun(x_2:Int×List UInt8×List Typ×List UInt8×List Typ)=>zaa (zam (fun(s:Int×List UInt8×List Typ×List UInt8×List Typ)=>zab (decide (s.1<(x.fields.length:Int))) (gd (decide (0<=x_2.1)&&decide (x_2.1<(s.2.2.2.2.length:Int))) (zaa s.2.2.2.2[x_2.1.toNat]? fun x_3=>gd (decide (0<=s.1)) (zaa x.fields[s.1.toNat]? fun x=>zaa (zo4 (x_3,x)) fun x=>gd (decide (0<=x_2.1)&&decide (x_2.1<(s.2.2.2.2.length:Int))) (zaa s.2.2.2.2[x_2.1.toNat]? fun x_4=>gd (zas (s.1+1)) (some (Sum.inl (s.1+1,s.2.1,s.2.2.1,s.2.2.2.1,List.set s.2.2.2.2 (x_2.1.toNat) x))))))) (some (Sum.inr (s.1,s.2.1,s.2.2.1,s.2.2.2.1,s.2.2.2.2)))) (0,x_2.2.1,x_2.2.2.1,x_2.2.2.2.1,x_2.2.2.2.2)) fun(x:Int×List UInt8×List Typ×List UInt8×List Typ)=>gd (zas (s_1.1+1)) (some (Sum.inl (s_1.1+1,x.2.1,x.2.2.1,x.2.2.2.1,x.2.2.2.2)))))) (some (Sum.inr (s_1.1,s_1.2.1,s_1.2.2.1,s_1.2.2.2.1,s_1.2.2.2.2))))) (0,s.2.1,s.2.2.1,s.2.2.2.1,s.2.2.2.2)) fun(x:Int×List UInt8×List Typ×List UInt8×List Typ)=>gd (zas (s.1+1)) (some (Sum.inl (s.1+1,x.2.1,x.2.2.1,x.2.2.2.1,x.2.2.2.2)))) (some (Sum.inr (s.1,s.2.1,s.2.2.1,s.2.2.2.1,s.2.2.2.2)))) (0,[],[],[97],[])) fun(x:Int×List UInt8×List Typ×List UInt8×List Typ)=>some {name:=x.2.2.2.1,types:=x.2.2.2.2:Part}
def zm7:List Part->Option Part:=zah zoW
theorem zqS(d:List Part):zm7 d=zoW d:=congrFun (zad zoW) d
def zuL:TE:=⟨54,[.lst (.nm .Part)],[],(.st .Part),[],zm7⟩
theorem zES(d:List Part):zaj [zf6,zls,zuM] zJI c54 [.c 2 (some 2)] [.lst (.nm .Part)] [] (.st .Part) [] d=zm7 d:=Eq.trans (b:=zoW d) (by kernel_rfl) (zqS d).symm
def zgp(d:List Part):Option (Chart×CFault):=zaa (zjH d) fun x=>zab (x.code !=0) (some ({all:={name:=[],types:=[]:Part},owners:=[]:Chart},x)) (zaa (zm7 d) fun x_1=>zaa (zeO x_1) fun x_2=>zab (x_2.code !=0) (some ({all:={name:=[],types:=[]:Part},owners:=[]:Chart},{pos:=0,type:=[],field:=[],code:=8:CFault})) (zaa (zam (fun(s:Int×List UInt8×List Typ×List Own×(Int×List UInt8×List UInt8×Int)×(List UInt8×List Typ)×List Own)=>zab (decide (s.1<(s.2.2.2.2.2.1.2.length:Int))) (gd (decide (0<=s.1)) (zaa s.2.2.2.2.2.1.2[s.1.toNat]? fun x=>zaa (zam (fun(s:Int×List UInt8×List Typ×List Own×(Int×List UInt8×List UInt8×Int)×(List UInt8×List Typ)×List Own)=>zab (decide (s.1<(x.fields.length:Int))) (gd (decide (0<=s.1)) (zaa x.fields[s.1.toNat]? fun x_3=>gd (decide (0<=s.1)) (zaa x.fields[s.1.toNat]? fun x_4=>zaa (zeR (d,x.name,x_4.name)) fun x_5=>gd (decide (List.length s.2.2.2.2.2.2+List.length [{type:=x.name,field:=x_3.name,parts:=x_5:Own}]<=LIM)) (gd (zas (s.1+1)) (some (Sum.inl (s.1+1,s.2.1,s.2.2.1,s.2.2.2.1,(s.2.2.2.2.1.1,s.2.2.2.2.1.2.1,s.2.2.2.2.1.2.2.1,s.2.2.2.2.1.2.2.2),(s.2.2.2.2.2.1.1,s.2.2.2.2.2.1.2),s.2.2.2.2.2.2++[{type:=x.name,field:=x_3.name,parts:=x_5:Own}]))))))) (some (Sum.inr (s.1,s.2.1,s.2.2.1,s.2.2.2.1,(s.2.2.2.2.1.1,s.2.2.2.2.1.2.1,s.2.2.2.2.1.2.2.1,s.2.2.2.2.1.2.2.2),(s.2.2.2.2.2.1.1,s.2.2.2.2.2.1.2),s.2.2.2.2.2.2)))) (0,s.2.1,s.2.2.1,s.2.2.2.1,(s.2.2.2.2.1.1,s.2.2.2.2.1.2.1,s.2.2.2.2.1.2.2.1,s.2.2.2.2.1.2.2.2),(s.2.2.2.2.2.1.1,s.2.2.2.2.2.1.2),s.2.2.2.2.2.2)) fun(x:Int×List UInt8×List Typ×List Own×(Int×List UInt8×List UInt8×Int)×(List UInt8×List Typ)×List Own)=>gd (zas (s.1+1)) (some (Sum.inl (s.1+1,x.2.1,x.2.2.1,x.2.2.2.1,(x.2.2.2.2.1.1,x.2.2.2.2.1.2.1,x.2.2.2.2.1.2.2.1,x.2.2.2.2.1.2.2.2),(x.2.2.2.2.2.1.1,x.2.2.2.2.2.1.2),x.2.2.2.2.2.2))))) (some (Sum.inr (s.1,s.2.1,s.2.2.1,s.2.2.2.1,(s.2.2.2.2.1.1,s.2.2.2.2.1.2.1,s.2.2.2.2.1.2.2.1,s.2.2.2.2.1.2.2.2),(s.2.2.2.2.2.1.1,s.2.2.2.2.2.1.2),s.2.2.2.2.2.2)))) (0,[],[],[],(0,[],[],0),(x_1.name,x_1.types),[])) fun(x_3:Int×List UInt8×List Typ×List Own×(Int×List UInt8×List UInt8×Int)×(List UInt8×List Typ)×List Own)=>some ({all:={name:=x_3.2.2.2.2.2.1.1,types:=x_3.2.2.2.2.2.1.2:Part},owners:=x_3.2.2.2.2.2.2:Chart},x)))
def zeN:List Part->Option (Chart×CFault):=zah zgp
theorem zkX(d:List Part):zeN d=zgp d:=congrFun (zad zgp) d
def zlq:TE:=⟨27,[.lst (.nm .Part)],[],(.tup [.st .Chart,.st .CFault]),[],zeN⟩
theorem zv0(d:List Part):zaj [zpi,zuL,zgR,zeZ] zJt c27 [.c 2 (some 3),.c 3 (some 4)] [.lst (.nm .Part)] [] (.tup [.st .Chart,.st .CFault]) [] d=zeN d:=Eq.trans (b:=zgp d) (by kernel_rfl) (zkX d).symm
def zhH(d:List Part×List UInt8×List UInt8):Option (List UInt8):=zaa (zeR (d.1,d.2.1,d.2.2)) fun x=>zaa (zam (fun(s:List UInt8×Int)=>zab (decide (s.2<(x.length:Int))) (zaa (zab (decide (s.2>0)) (gd (decide (List.length s.1+List.length [32]<=BIG)) (some (s.1++[32]))) (some s.1)) fun x_1=>gd (decide (0<=s.2)) (zaa x[s.2.toNat]? fun x=>gd (decide (0<=x)) (zaa d.1[x.toNat]? fun x=>gd (decide (List.length x_1+List.length x.name<=BIG)) (gd (zas (s.2+1)) (some (Sum.inl (x_1++x.name,s.2+1))))))) (some (Sum.inr (s.1,s.2)))) ([],0)) fun(x:List UInt8×Int)=>some x.1
def zgh:List Part×List UInt8×List UInt8->Option (List UInt8):=zah zhH
theorem zmd(d:List Part×List UInt8×List UInt8):zgh d=zhH d:=congrFun (zad zhH) d
def znf:TE:=⟨29,[.lst (.nm .Part),.str,.str],[],(.str),[],zgh⟩
theorem zyB(d:List Part×List UInt8×List UInt8):zaj [zeZ] zJv c29 [.t 6] [.lst (.nm .Part),.str,.str] [] (.str) [] d=zgh d:=Eq.trans (b:=zhH d) (by kernel_rfl) (zmd d).symm
def zfl(d:List Part×List Part):Option (List (List UInt8)):=zaa (zeN d.1) fun(x:Chart×CFault)=>zaa (zeN d.2) fun(x_1:Chart×CFault)=>zaa (zab (x.2.code !=0) (some true) (some (x_1.2.code !=0))) fun x_2=>zab x_2 (some []) (zaa (zam (fun(s:Int×List (List UInt8))=>zab (decide (s.1<(x.1.owners.length:Int))) (gd (decide (0<=s.1)) (zaa x.1.owners[s.1.toNat]? fun x=>zaa (zgI ({name:=x_1.1.all.name,types:=x_1.1.all.types:Part},x.type,x.field)) fun(x_3:Field×Bool)=>zaa (zgh (d.1,x.type,x.field)) fun x_4=>zaa (zgh (d.2,x.type,x.field)) fun x_5=>zaa (zab x_3.2 (some (x_4 !=x_5)) (some false)) fun x_6=>zaa (zab x_6 (gd (decide (List.length x.type+List.length [46]<=BIG)) (gd (decide (List.length (x.type++[46])+List.length x.field<=BIG)) (gd (decide (List.length (x.type++[46]++x.field)+List.length [58,32]<=BIG)) (gd (decide (List.length (x.type++[46]++x.field++[58,32])+List.length x_4<=BIG)) (gd (decide (List.length (x.type++[46]++x.field++[58,32]++x_4)+List.length [32,62,32]<=BIG)) (gd (decide (List.length (x.type++[46]++x.field++[58,32]++x_4++[32,62,32])+List.length x_5<=BIG)) (gd (decide (List.length s.2+List.length [x.type++[46]++x.field++[58,32]++x_4++[32,62,32]++x_5]<=LIM)) (some (s.2++[x.type++[46]++x.field++[58,32]++x_4++[32,62,32]++x_5]))))))))) (some s.2)) fun x=>gd (zas (s.1+1)) (some (Sum.inl (s.1+1,x))))) (some (Sum.inr (s.1,s.2)))) (0,[])) fun(x:Int×List (List UInt8))=>some x.2)
def zdX:List Part×List Part->Option (List (List UInt8)):=zah zfl
theorem zjw(d:List Part×List Part):zdX d=zfl d:=congrFun (zad zfl) d
def zjO:TE:=⟨8,[.lst (.nm .Part),.lst (.nm .Part)],[],(.own 0),[.arr .str .no],zdX⟩
theorem zuk(d:List Part×List Part):zaj [zlq,zlr,znf] cy8 c8 [.t 4] [.lst (.nm .Part),.lst (.nm .Part)] [] (.own 0) [.arr .str .no] d=zdX d:=Eq.trans (b:=zfl d) (by kernel_rfl) (zjw d).symm
def zs2(d:Int×Int×Int):Option Bool:=zaa (zab (decide (d.1>=d.2.1)) (some (decide (d.1<=d.2.2))) (some false)) fun x=>some x
def zkZ:Int×Int×Int->Option Bool:=zah zs2
theorem zs4(d:Int×Int×Int):zkZ d=zs2 d:=congrFun (zad zs2) d
def zpb:TE:=⟨59,[.int .i64,.int .i64,.int .i64],[],(.bool),[],zkZ⟩
theorem zGW(d:Int×Int×Int):zaj [] zJN c59 [.t 6] [.int .i64,.int .i64,.int .i64] [] (.bool) [] d=zkZ d:=Eq.trans (b:=zs2 d) (by kernel_rfl) (zs4 d).symm
def zhC(d:List UInt8):Option Bool:=zaa (zam (fun(s:Int)=>zab (decide (s<(↑(List.length (List.map zaF d)):Int))) (gd (decide (0<=s)) (zaa (List.map zaF d)[s.toNat]? fun x=>zaa (zaa (zkZ (IntKind.wrap IntKind.i64 x,97,122)) fun x_1=>zab (!x_1) (zab (x !=95) (zab (s==0) (some true) (zaa (zkZ (IntKind.wrap IntKind.i64 x,48,57)) fun x=>some !x)) (some false)) (some false)) fun x=>zab x (some (Sum.inr (Sum.inr false))) (gd (zas (s+1)) (some (Sum.inl (s+1)))))) (some (Sum.inr (Sum.inl s)))) 0) fun(x:Int⊕Bool)=>zat x (fun d_1=>zaa (zkZ ((d.length:Int),1,9)) fun x=>some x) fun r=>some r
def zhW:List UInt8->Option Bool:=zah zhC
theorem zl9(d:List UInt8):zhW d=zhC d:=congrFun (zad zhC) d
def znc:TE:=⟨125,[.str],[],(.bool),[],zhW⟩
theorem zyx(d:List UInt8):zaj [zpb] zFv zIU [.t 2] [.str] [] (.bool) [] d=zhW d:=Eq.trans (b:=zhC d) (by kernel_rfl) (zl9 d).symm
def zaB(d:List (List UInt8)×List UInt8):Option Int:=zaa (zam (fun(s:Int)=>zab (decide (s<(d.1.length:Int))) (gd (decide (0<=s)) (zaa d.1[s.toNat]? fun x=>zab (d.2==x) (some (Sum.inr (Sum.inr s))) (gd (zas (s+1)) (some (Sum.inl (s+1)))))) (some (Sum.inr (Sum.inl s)))) 0) fun(x:Int⊕Int)=>zat x (fun d=>some (-1)) fun r=>some r
def zaD:List (List UInt8)×List UInt8->Option Int:=zah zaB
theorem zcc(d:List (List UInt8)×List UInt8):zaD d=zaB d:=congrFun (zad zaB) d
def zbv:TE:=⟨147,[.lst .str,.str],[],(.int .i64),[],zaD⟩
theorem zge(d:List (List UInt8)×List UInt8):zaj [] zFJ zI8 [.t 4] [.lst .str,.str] [] (.int .i64) [] d=zaD d:=Eq.trans (b:=zaB d) (by kernel_rfl) (zcc d).symm
def zaw(d:List (List UInt8)×List UInt8):Option Bool:=zaa (zaD (d.1,d.2)) fun x=>some (decide (x>=0))
def zan:List (List UInt8)×List UInt8->Option Bool:=zah zaw
theorem zbI(d:List (List UInt8)×List UInt8):zan d=zaw d:=congrFun (zad zaw) d
def zax:TE:=⟨126,[.lst .str,.str],[],(.bool),[],zan⟩
theorem zfe(d:List (List UInt8)×List UInt8):zaj [zbv] zFw zIV [.t 4] [.lst .str,.str] [] (.bool) [] d=zan d:=Eq.trans (b:=zaw d) (by kernel_rfl) (zbI d).symm
def zhB(d:List UInt8):Option Bool:=zaa (zaa (zhW d) fun x=>zab x (zab (decide ((d.length:Int)<=8)) (zaa d[Int.toNat 0]? fun x=>zab (zaF x !=95) (zaa (zan ([[105,110,116],[116,101,120,116],[98,111,111,108],[112,97,114,116],[116,121,112,101],[107,101,121],[102,97,114],[104,105,100,100,101,110],[115,104,97,114,101,100],[110,101,101,100,115]],d)) fun x=>some !x) (some false)) (some false)) (some false)) fun x=>some x
def zcI:List UInt8->Option Bool:=zah zhB
theorem zl8(d:List UInt8):zcI d=zhB d:=congrFun (zad zhB) d
def zdh:TE:=⟨101,[.str],[],(.bool),[],zcI⟩
theorem zyw(d:List UInt8):zaj [znc,zax] zFh zIG [.t 2] [.str] [] (.bool) [] d=zcI d:=Eq.trans (b:=zhB d) (by kernel_rfl) (zl8 d).symm
def zcP(d:Typ×List UInt8):Option Bool:=some (d.1.name==d.2)
def zb3:Typ×List UInt8->Option Bool:=zah zcP
theorem zha(d:Typ×List UInt8):zb3 d=zcP d:=congrFun (zad zcP) d
def zcY:TE:=⟨123,[.st .Typ,.ip [.str]],[],(.bool),[],zb3⟩
theorem zqh(d:Typ×List UInt8):zaj [] zFu zIT [.t 3] [.st .Typ,.ip [.str]] [] (.bool) [] d=zb3 d:=Eq.trans (b:=zcP d) (by kernel_rfl) (zha d).symm
def zct(d:List Typ×List UInt8):Option Int:=zaa (zam (fun(s:Int)=>zab (decide (s<(d.1.length:Int))) (gd (decide (0<=s)) (zaa d.1[s.toNat]? fun x=>zaa (zb3 (x,d.2)) fun x=>zab x (some (Sum.inr (Sum.inr s))) (gd (zas (s+1)) (some (Sum.inl (s+1)))))) (some (Sum.inr (Sum.inl s)))) 0) fun(x:Int⊕Int)=>zat x (fun d=>some (-1)) fun r=>some r
def zcz:List Typ×List UInt8->Option Int:=zah zct
theorem zgK(d:List Typ×List UInt8):zcz d=zct d:=congrFun (zad zct) d
def zfP:TE:=⟨65,[.lst (.nm .Typ),.fn 123 [.ip [.str]]],[],(.int .i64),[],zcz⟩
theorem zoD(d:List Typ×List UInt8):zaj [zcY] zGZ c65 [.t 4] [.lst (.nm .Typ),.fn 123 [.ip [.str]]] [] (.int .i64) [] d=zcz d:=Eq.trans (b:=zct d) (by kernel_rfl) (zgK d).symm
def zd8(d:Part×List UInt8):Option (Typ×Bool):=zaa (zcz (d.1.types,d.2)) fun x=>zab (decide (x<0)) (some ({name:=[],key:=[],fields:=[]:Typ},false)) (gd (decide (0<=x)) (zaa d.1.types[x.toNat]? fun x=>some (x,true)))
def zbp:Part×List UInt8->Option (Typ×Bool):=zah zd8
theorem ziW(d:Part×List UInt8):zbp d=zd8 d:=congrFun (zad zd8) d
def zbr:TE:=⟨94,[.st .Part,.str],[],(.tup [.st .Typ,.bool]),[],zbp⟩
theorem zsM(d:Part×List UInt8):zaj [zfP,zcY] zKa c94 [.c 4 (some 3),.t 5] [.st .Part,.str] [] (.tup [.st .Typ,.bool]) [] d=zbp d:=Eq.trans (b:=zd8 d) (by kernel_rfl) (ziW d).symm
def zco(d:Field):Option Bool:=zaa (zab (d.of==[105,110,116]) (some true) (zab (d.of==[116,101,120,116]) (some true) (some (d.of==[98,111,111,108])))) fun x=>some x
def zbL:Field->Option Bool:=zah zco
theorem zgD(d:Field):zbL d=zco d:=congrFun (zad zco) d
def zcD:TE:=⟨110,[.st .Field],[],(.bool),[],zbL⟩
theorem zoy(d:Field):zaj [] zFn zIM [.t 2] [.st .Field] [] (.bool) [] d=zbL d:=Eq.trans (b:=zco d) (by kernel_rfl) (zgD d).symm
def zbR(d:List UInt8):Option Bool:=zaa (zcI d) fun x=>some !x
def zbe:List UInt8->Option Bool:=zah zbR
theorem zfw(d:List UInt8):zbe d=zbR d:=congrFun (zad zbR) d
def zaS:TE:=⟨148,[.str],[],(.bool),[],zbe⟩
theorem zm3(d:List UInt8):zaj [zdh] zFK zI9 [.t 2] [.str] [] (.bool) [] d=zbe d:=Eq.trans (b:=zbR d) (by kernel_rfl) (zfw d).symm
def zbA(d:List (List UInt8)):Option Int:=zaa (zam (fun(s:Int)=>zab (decide (s<(d.length:Int))) (gd (decide (0<=s)) (zaa d[s.toNat]? fun x=>zaa (zbe x) fun x=>zab x (some (Sum.inr (Sum.inr s))) (gd (zas (s+1)) (some (Sum.inl (s+1)))))) (some (Sum.inr (Sum.inl s)))) 0) fun(x:Int⊕Int)=>zat x (fun d=>some (-1)) fun r=>some r
def zbD:List (List UInt8)->Option Int:=zah zbA
theorem zeK(d:List (List UInt8)):zbD d=zbA d:=congrFun (zad zbA) d
def zdR:TE:=⟨124,[.lst .str,.fn 148 []],[],(.int .i64),[],zbD⟩
theorem zl0(d:List (List UInt8)):zaj [zaS] zBp zHl [.t 4] [.lst .str,.fn 148 []] [] (.int .i64) [] d=zbD d:=Eq.trans (b:=zbA d) (by kernel_rfl) (zeK d).symm
def zby(d:List (List UInt8)):Option Bool:=zaa (zbD d) fun x=>some (decide (x>=0))
def zaW:List (List UInt8)->Option Bool:=zah zby
theorem zeI(d:List (List UInt8)):zaW d=zby d:=congrFun (zad zby) d
def zdP:TE:=⟨97,[.lst .str,.fn 148 []],[],(.bool),[],zaW⟩
theorem zlY(d:List (List UInt8)):zaj [zdR,zaS] zG1 c97 [.t 4] [.lst .str,.fn 148 []] [] (.bool) [] d=zaW d:=Eq.trans (b:=zby d) (by kernel_rfl) (zeI d).symm
def zbS(d:Field):Option Bool:=zaa (zaa (zcI d.name) fun x=>zab (!x) (some true) (zaa (zcI d.of) fun x=>zab (!x) (zaa (zbL d) fun x=>zab (!x) (some true) (zaa (zaW d.needs) fun x=>some x)) (zaa (zaW d.needs) fun x=>some x))) fun x=>some x
def zbf:Field->Option Bool:=zah zbS
theorem zfx(d:Field):zbf d=zbS d:=congrFun (zad zbS) d
def zaT:TE:=⟨149,[.st .Field,.ip [.fn 148 []]],[],(.bool),[],zbf⟩
theorem zm4(d:Field):zaj [zdh,zcD,zdP,zaS] zFL zJa [.t 3] [.st .Field,.ip [.fn 148 []]] [] (.bool) [] d=zbf d:=Eq.trans (b:=zbS d) (by kernel_rfl) (zfx d).symm
def zbB(d:List Field):Option Int:=zaa (zam (fun(s:Int)=>zab (decide (s<(d.length:Int))) (gd (decide (0<=s)) (zaa d[s.toNat]? fun x=>zaa (zbf x) fun x=>zab x (some (Sum.inr (Sum.inr s))) (gd (zas (s+1)) (some (Sum.inl (s+1)))))) (some (Sum.inr (Sum.inl s)))) 0) fun(x:Int⊕Int)=>zat x (fun d=>some (-1)) fun r=>some r
def zbE:List Field->Option Int:=zah zbB
theorem zeL(d:List Field):zbE d=zbB d:=congrFun (zad zbB) d
def zdS:TE:=⟨98,[.lst (.nm .Field),.fn 149 [.ip [.fn 148 []]]],[],(.int .i64),[],zbE⟩
theorem zl1(d:List Field):zaj [zaT] zws c98 [.t 4] [.lst (.nm .Field),.fn 149 [.ip [.fn 148 []]]] [] (.int .i64) [] d=zbE d:=Eq.trans (b:=zbB d) (by kernel_rfl) (zeL d).symm
def zbz(d:List Field):Option Bool:=zaa (zbE d) fun x=>some (decide (x>=0))
def zaX:List Field->Option Bool:=zah zbz
theorem zeJ(d:List Field):zaX d=zbz d:=congrFun (zad zbz) d
def zdQ:TE:=⟨68,[.lst (.nm .Field),.fn 149 [.ip [.fn 148 []]]],[],(.bool),[],zaX⟩
theorem zlZ(d:List Field):zaj [zdS,zaT] zyM c68 [.t 4] [.lst (.nm .Field),.fn 149 [.ip [.fn 148 []]]] [] (.bool) [] d=zaX d:=Eq.trans (b:=zbz d) (by kernel_rfl) (zeJ d).symm
def zcp(d:Typ):Option Bool:=zaa (zaa (zcI d.name) fun x=>zab (!x) (some true) (zab (d.key !=[]) (zaa (zcI d.key) fun x=>zab (!x) (some true) (zaa (zkZ ((d.fields.length:Int),1,8)) fun x=>zab (!x) (some true) (zaa (zaX d.fields) fun x=>some x))) (zaa (zkZ ((d.fields.length:Int),1,8)) fun x=>zab (!x) (some true) (zaa (zaX d.fields) fun x=>some x)))) fun x=>some x
def zcx:Typ->Option Bool:=zah zcp
theorem zgE(d:Typ):zcx d=zcp d:=congrFun (zad zcp) d
def zfN:TE:=⟨128,[.st .Typ],[],(.bool),[],zcx⟩
theorem zoz(d:Typ):zaj [zdh,zpb,zdQ,zaT] zFy zIX [.t 2] [.st .Typ] [] (.bool) [] d=zcx d:=Eq.trans (b:=zcp d) (by kernel_rfl) (zgE d).symm
def zdw(d:Typ):Option (List (List UInt8)):=zaa (zam (fun(s:Int×List (List UInt8))=>zab (decide (s.1<(d.fields.length:Int))) (gd (decide (0<=s.1)) (zaa d.fields[s.1.toNat]? fun x=>gd (decide (List.length s.2+List.length [x.name]<=LIM)) (gd (zas (s.1+1)) (some (Sum.inl (s.1+1,s.2++[x.name])))))) (some (Sum.inr (s.1,s.2)))) (0,[])) fun(x:Int×List (List UInt8))=>some x.2
def zdC:Typ->Option (List (List UInt8)):=zah zdw
theorem zhV(d:Typ):zdC d=zdw d:=congrFun (zad zdw) d
def zhw:TE:=⟨130,[.st .Typ],[],(.lst .str),[],zdC⟩
theorem zqN(d:Typ):zaj [] zFA zIZ [.t 2] [.st .Typ] [] (.lst .str) [] d=zdC d:=Eq.trans (b:=zdw d) (by kernel_rfl) (zhV d).symm
def zjo(d:List (List UInt8)):Option Bool:=zaa (zam (fun(s:Int)=>zab (decide (s<(d.length:Int))) (gd (decide (0<=s)) (zaa d[s.toNat]? fun x=>gd (decide (0<=0)&&decide (0<=s)&&decide (s<=(d.length:Int))) (zaa (zan (List.take (s.toNat-Int.toNat 0) (List.drop (Int.toNat 0) d),x)) fun x=>zab x (some (Sum.inr (Sum.inr true))) (gd (zas (s+1)) (some (Sum.inl (s+1))))))) (some (Sum.inr (Sum.inl s)))) 0) fun(x:Int⊕Bool)=>zat x (fun d=>some false) fun r=>some r
def zjB:List (List UInt8)->Option Bool:=zah zjo
theorem znZ(d:List (List UInt8)):zjB d=zjo d:=congrFun (zad zjo) d
def zpd:TE:=⟨129,[.lst .str],[],(.bool),[],zjB⟩
theorem zA3(d:List (List UInt8)):zaj [zax] zFz zIY [.t 2] [.lst .str] [] (.bool) [] d=zjB d:=Eq.trans (b:=zjo d) (by kernel_rfl) (znZ d).symm
def zbl(d:Field×Part):Option Bool:=zaa (zbp (d.2,d.1.of)) fun(x:Typ×Bool)=>zaa (zaa (zbL d.1) fun x_1=>zab (!x_1) (some !x.2) (some false)) fun x=>some x
def zbn:Field×Part->Option Bool:=zah zbl
theorem zel(d:Field×Part):zbn d=zbl d:=congrFun (zad zbl) d
def zaH:TE:=⟨127,[.st .Field,.ep .Part],[],(.bool),[],zbn⟩
theorem zkV(d:Field×Part):zaj [zbr,zcD] zFx zIW [.t 3] [.st .Field,.ep .Part] [] (.bool) [] d=zbn d:=Eq.trans (b:=zbl d) (by kernel_rfl) (zel d).symm
def za1(d:List Field×Part):Option Int:=zaa (zam (fun(s:Int)=>zab (decide (s<(d.1.length:Int))) (gd (decide (0<=s)) (zaa d.1[s.toNat]? fun x=>zaa (zbn (x,d.2)) fun x=>zab x (some (Sum.inr (Sum.inr s))) (gd (zas (s+1)) (some (Sum.inl (s+1)))))) (some (Sum.inr (Sum.inl s)))) 0) fun(x:Int⊕Int)=>zat x (fun d=>some (-1)) fun r=>some r
def za8:List Field×Part->Option Int:=zah za1
theorem zd1(d:List Field×Part):za8 d=za1 d:=congrFun (zad za1) d
def zc4:TE:=⟨98,[.lst (.nm .Field),.fn 127 [.ep .Part]],[],(.int .i64),[],za8⟩
theorem zkr(d:List Field×Part):zaj [zaH] zws c98 [.t 4] [.lst (.nm .Field),.fn 127 [.ep .Part]] [] (.int .i64) [] d=za8 d:=Eq.trans (b:=za1 d) (by kernel_rfl) (zd1 d).symm
def zaZ(d:List Field×Part):Option Bool:=zaa (za8 (d.1,d.2)) fun x=>some (decide (x>=0))
def za6:List Field×Part->Option Bool:=zah zaZ
theorem zdZ(d:List Field×Part):za6 d=zaZ d:=congrFun (zad zaZ) d
def zc2:TE:=⟨68,[.lst (.nm .Field),.fn 127 [.ep .Part]],[],(.bool),[],za6⟩
theorem zkp(d:List Field×Part):zaj [zc4,zaH] zyM c68 [.t 4] [.lst (.nm .Field),.fn 127 [.ep .Part]] [] (.bool) [] d=za6 d:=Eq.trans (b:=zaZ d) (by kernel_rfl) (zdZ d).symm
def zcR(d:Field×List UInt8):Option Bool:=some (d.1.name==d.2)
def zbC:Field×List UInt8->Option Bool:=zah zcR
theorem zhc(d:Field×List UInt8):zbC d=zcR d:=congrFun (zad zcR) d
def zbF:TE:=⟨99,[.st .Field,.ip [.str]],[],(.bool),[],zbC⟩
theorem zqj(d:Field×List UInt8):zaj [] zKd c99 [.t 3] [.st .Field,.ip [.str]] [] (.bool) [] d=zbC d:=Eq.trans (b:=zcR d) (by kernel_rfl) (zhc d).symm
def zbK(d:List Field×List UInt8):Option Int:=zaa (zam (fun(s:Int)=>zab (decide (s<(d.1.length:Int))) (gd (decide (0<=s)) (zaa d.1[s.toNat]? fun x=>zaa (zbC (x,d.2)) fun x=>zab x (some (Sum.inr (Sum.inr s))) (gd (zas (s+1)) (some (Sum.inl (s+1)))))) (some (Sum.inr (Sum.inl s)))) 0) fun(x:Int⊕Int)=>zat x (fun d=>some (-1)) fun r=>some r
def zbh:List Field×List UInt8->Option Int:=zah zbK
theorem zdM(d:List Field×List UInt8):zbh d=zbK d:=congrFun (zad zbK) d
def zcE:TE:=⟨98,[.lst (.nm .Field),.fn 99 [.ip [.str]]],[],(.int .i64),[],zbh⟩
theorem zoE(d:List Field×List UInt8):zaj [zbF] zws c98 [.t 4] [.lst (.nm .Field),.fn 99 [.ip [.str]]] [] (.int .i64) [] d=zbh d:=Eq.trans (b:=zbK d) (by kernel_rfl) (zdM d).symm
def zd9(d:Typ×List UInt8):Option (Field×Bool):=zaa (zbh (d.1.fields,d.2)) fun x=>zab (decide (x<0)) (some ({name:=[],of:=[],list:=false,must:=false,far:=false,hidden:=false,shared:=false,needs:=[]:Field},false)) (gd (decide (0<=x)) (zaa d.1.fields[x.toNat]? fun x=>some (x,true)))
def zbq:Typ×List UInt8->Option (Field×Bool):=zah zd9
theorem ziX(d:Typ×List UInt8):zbq d=zd9 d:=congrFun (zad zd9) d
def zbs:TE:=⟨67,[.st .Typ,.str],[],(.tup [.st .Field,.bool]),[],zbq⟩
theorem zsN(d:Typ×List UInt8):zaj [zcE,zbF] zG0 c67 [.c 4 (some 8),.t 5] [.st .Typ,.str] [] (.tup [.st .Field,.bool]) [] d=zbq d:=Eq.trans (b:=zd9 d) (by kernel_rfl) (ziX d).symm
def zbX(d:(List UInt8×List UInt8)×List UInt8×List Field):Option ((Field×Bool)×List Field):=zaa (zbh (d.2.2,d.2.1)) fun x=>zab (decide (x<0)) (some (({name:=[],of:=[],list:=false,must:=false,far:=false,hidden:=false,shared:=false,needs:=[]:Field},false),d.2.2)) (gd (decide (0<=x)&&decide (x<(d.2.2.length:Int))) (zaa d.2.2[x.toNat]? fun x=>some ((x,true),d.2.2)))
def zb4:(List UInt8×List UInt8)×List UInt8×List Field->Option ((Field×Bool)×List Field):=zah zbX
theorem zfV(d:(List UInt8×List UInt8)×List UInt8×List Field):zb4 d=zbX d:=congrFun (zad zbX) d
def zeY:TE:=⟨67,[.agg [.str,.str,.own 0],.str],[.arr (.nm .Field) .no],(.tup [.st .Field,.bool]),[.arr (.nm .Field) .no],zb4⟩
theorem znS(d:(List UInt8×List UInt8)×List UInt8×List Field):zaj [zcE,zbF] zG0 c67 [.c 4 (some 8),.t 5] [.agg [.str,.str,.own 0],.str] [.arr (.nm .Field) .no] (.tup [.st .Field,.bool]) [.arr (.nm .Field) .no] d=zb4 d:=Eq.trans (b:=zbX d) (by kernel_rfl) (zfV d).symm
def zcO(d:Field):Option Bool:=some (decide ((d.needs.length:Int)>0))
def za5:Field->Option Bool:=zah zcO
theorem zg9(d:Field):za5 d=zcO d:=congrFun (zad zcO) d
def zaR:TE:=⟨100,[.st .Field],[],(.bool),[],za5⟩
theorem zqg(d:Field):zaj [] zFg zIF [.t 2] [.st .Field] [] (.bool) [] d=za5 d:=Eq.trans (b:=zcO d) (by kernel_rfl) (zg9 d).symm
def zbP(d:Field):Option Bool:=zaa (zab (d.of==[105,110,116]) (zab (!d.list) (zaa (za5 d) fun x=>some !x) (some false)) (some false)) fun x=>some x
def zbd:Field->Option Bool:=zah zbP
theorem zfu(d:Field):zbd d=zbP d:=congrFun (zad zbP) d
def zbU:TE:=⟨150,[.st .Field],[],(.bool),[],zbd⟩
theorem zm1(d:Field):zaj [zaR] zFM zJb [.t 2] [.st .Field] [] (.bool) [] d=zbd d:=Eq.trans (b:=zbP d) (by kernel_rfl) (zfu d).symm
def zcQ(d:Typ):Option Bool:=zab (d.key==[]) (some false) (zaa (zbq (d,d.key)) fun(x:Field×Bool)=>zaa (zab (!x.2) (some true) (zaa (zbd {name:=x.1.name,of:=x.1.of,list:=x.1.list,must:=x.1.must,far:=x.1.far,hidden:=x.1.hidden,shared:=x.1.shared,needs:=x.1.needs:Field}) fun x_1=>zab (!x_1) (some true) (zab (!x.1.must) (some true) (zab x.1.far (some true) (some x.1.hidden))))) fun x=>some x)
def zcV:Typ->Option Bool:=zah zcQ
theorem zhb(d:Typ):zcV d=zcQ d:=congrFun (zad zcQ) d
def zgS:TE:=⟨131,[.st .Typ],[],(.bool),[],zcV⟩
theorem zqi(d:Typ):zaj [zbs,zbU] zFB zI0 [.t 2] [.st .Typ] [] (.bool) [] d=zcV d:=Eq.trans (b:=zcQ d) (by kernel_rfl) (zhb d).symm
def zcq(d:Typ×Field):Option Bool:=zaa (zab d.2.far (some d.2.shared) (some false)) fun x=>zab x (some true) (zaa (za5 d.2) fun x=>zab (!x) (some false) (zaa (zab (d.2.of !=[105,110,116]) (some true) (zab d.2.list (some true) (zab d.2.far (some true) (zab d.2.must (some true) (zab (d.2.name==d.1.key) (some true) (some (d.1.key==[]))))))) fun x=>zab x (some true) (zaa (zam (fun(s:Int)=>zab (decide (s<(d.2.needs.length:Int))) (gd (decide (0<=s)) (zaa d.2.needs[s.toNat]? fun x=>zaa (zbq (d.1,x)) fun(x_1:Field×Bool)=>zaa (zab (!x_1.2) (some true) (zaa (zbd {name:=x_1.1.name,of:=x_1.1.of,list:=x_1.1.list,must:=x_1.1.must,far:=x_1.1.far,hidden:=x_1.1.hidden,shared:=x_1.1.shared,needs:=x_1.1.needs:Field}) fun x_2=>zab (!x_2) (some true) (zab (decide (s>0)) (gd (zas (s-1)) (gd (decide (0<=s-1)) (zaa d.2.needs[Int.toNat (s-1)]? fun x_3=>some (Op.bytesLess x x_3 ||x==x_3)))) (some false)))) fun x=>zab x (some (Sum.inr (Sum.inr true))) (gd (zas (s+1)) (some (Sum.inl (s+1)))))) (some (Sum.inr (Sum.inl s)))) 0) fun(x:Int⊕Bool)=>zat x (fun d=>some false) fun r=>some r)))
def zbM:Typ×Field->Option Bool:=zah zcq
theorem zgF(d:Typ×Field):zbM d=zcq d:=congrFun (zad zcq) d
def zbj:TE:=⟨132,[.st .Typ,.st .Field],[],(.bool),[],zbM⟩
theorem zoA(d:Typ×Field):zaj [zaR,zbs,zbU] zFC zI1 [.t 4] [.st .Typ,.st .Field] [] (.bool) [] d=zbM d:=Eq.trans (b:=zcq d) (by kernel_rfl) (zgF d).symm
def zb1(d:List Field×Typ):Option Int:=zaa (zam (fun(s:Int)=>zab (decide (s<(d.1.length:Int))) (gd (decide (0<=s)) (zaa d.1[s.toNat]? fun x=>zaa (zbM (d.2,x)) fun x=>zab x (some (Sum.inr (Sum.inr s))) (gd (zas (s+1)) (some (Sum.inl (s+1)))))) (some (Sum.inr (Sum.inl s)))) 0) fun(x:Int⊕Int)=>zat x (fun d=>some (-1)) fun r=>some r
def zb8:List Field×Typ->Option Int:=zah zb1
theorem zfZ(d:List Field×Typ):zb8 d=zb1 d:=congrFun (zad zb1) d
def ze3:TE:=⟨98,[.lst (.nm .Field),.fn 1048708 [.st .Typ]],[],(.int .i64),[],zb8⟩
theorem znW(d:List Field×Typ):zaj [zbj] zws c98 [.t 4] [.lst (.nm .Field),.fn 1048708 [.st .Typ]] [] (.int .i64) [] d=zb8 d:=Eq.trans (b:=zb1 d) (by kernel_rfl) (zfZ d).symm
def zbY(d:List Field×Typ):Option Bool:=zaa (zb8 (d.1,d.2)) fun x=>some (decide (x>=0))
def zb5:List Field×Typ->Option Bool:=zah zbY
theorem zfW(d:List Field×Typ):zb5 d=zbY d:=congrFun (zad zbY) d
def ze0:TE:=⟨68,[.lst (.nm .Field),.fn 1048708 [.st .Typ]],[],(.bool),[],zb5⟩
theorem znT(d:List Field×Typ):zaj [ze3,zbj] zyM c68 [.t 4] [.lst (.nm .Field),.fn 1048708 [.st .Typ]] [] (.bool) [] d=zb5 d:=Eq.trans (b:=zbY d) (by kernel_rfl) (zfW d).symm
def zbm(d:Field):Option Bool:=some (d.of==[113,117,101,114,121])
def zbo:Field->Option Bool:=zah zbm
theorem zem(d:Field):zbo d=zbm d:=congrFun (zad zbm) d
def zaI:TE:=⟨133,[.st .Field],[],(.bool),[],zbo⟩
theorem zkW(d:Field):zaj [] zFD zI2 [.t 2] [.st .Field] [] (.bool) [] d=zbo d:=Eq.trans (b:=zbm d) (by kernel_rfl) (zem d).symm
def za2(d:List Field):Option Int:=zaa (zam (fun(s:Int)=>zab (decide (s<(d.length:Int))) (gd (decide (0<=s)) (zaa d[s.toNat]? fun x=>zaa (zbo x) fun x=>zab x (some (Sum.inr (Sum.inr s))) (gd (zas (s+1)) (some (Sum.inl (s+1)))))) (some (Sum.inr (Sum.inl s)))) 0) fun(x:Int⊕Int)=>zat x (fun d=>some (-1)) fun r=>some r
def za9:List Field->Option Int:=zah za2
theorem zd2(d:List Field):za9 d=za2 d:=congrFun (zad za2) d
def zc5:TE:=⟨98,[.lst (.nm .Field),.fn 133 []],[],(.int .i64),[],za9⟩
theorem zks(d:List Field):zaj [zaI] zws c98 [.t 4] [.lst (.nm .Field),.fn 133 []] [] (.int .i64) [] d=za9 d:=Eq.trans (b:=za2 d) (by kernel_rfl) (zd2 d).symm
def za0(d:List Field):Option Bool:=zaa (za9 d) fun x=>some (decide (x>=0))
def za7:List Field->Option Bool:=zah za0
theorem zd0(d:List Field):za7 d=za0 d:=congrFun (zad za0) d
def zc3:TE:=⟨68,[.lst (.nm .Field),.fn 133 []],[],(.bool),[],za7⟩
theorem zkq(d:List Field):zaj [zc5,zaI] zyM c68 [.t 4] [.lst (.nm .Field),.fn 133 []] [] (.bool) [] d=za7 d:=Eq.trans (b:=za0 d) (by kernel_rfl) (zd0 d).symm
def zbQ(d:Part×Int):Option Int:=gd (decide (0<=d.2)) (zaa d.1.types[d.2.toNat]? fun x=>gd (decide (0<=0)&&decide (0<=d.2)&&decide (d.2<=(d.1.types.length:Int))) (zaa (zbp ({name:=[],types:=List.take (d.2.toNat-Int.toNat 0) (List.drop (Int.toNat 0) d.1.types):Part},x.name)) fun(x_1:Typ×Bool)=>zaa (zcx x) fun x_2=>zab x_2 (some 1) (zaa (zab x_1.2 (some true) (zaa (zdC x) fun x=>zaa (zjB x) fun x=>some x)) fun x_3=>zab x_3 (some 2) (zaa (za6 (x.fields,d.1)) fun x_4=>zab x_4 (some 3) (zaa (zcV x) fun x_5=>zab x_5 (some 4) (zaa (zb5 (x.fields,x)) fun x_6=>zab x_6 (some 5) (zaa (za7 x.fields) fun x=>zab x (some 7) (some 0))))))))
def zbT:Part×Int->Option Int:=zah zbQ
theorem zfv(d:Part×Int):zbT d=zbQ d:=congrFun (zad zbQ) d
def zex:TE:=⟨102,[.st .Part,.int .i64],[],(.int .i64),[],zbT⟩
theorem zm2(d:Part×Int):zaj [zbr,zfN,zhw,zpd,zc2,zaH,zgS,ze0,zbj,zc3,zaI] zFi zIH [.t 4] [.st .Part,.int .i64] [] (.int .i64) [] d=zbT d:=Eq.trans (b:=zbQ d) (by kernel_rfl) (zfv d).symm
def zcv(d:List UInt8):Option (Int×List Int):=zaa (zhq ()) fun x=>gd (decide (List.length d<=LIM)) (some ((d.length:Int),List.map zaF d))
def zcB:List UInt8->Option (Int×List Int):=zah zcv
theorem zgM(d:List UInt8):zcB d=zcv d:=congrFun (zad zcv) d
def zfR:TE:=⟨51,[.mpb 0 0,.str],[.box bdB [.nilp,.e0]],(.tup [.int .i64,.nilf]),[.box bdB [.mpb 0 0,.own 1],.arr (.int .u8) .no],zcB⟩
theorem zoG(d:List UInt8):zaj [zhy] zGY c51 [.t 4,.t 5] [.mpb 0 0,.str] [.box bdB [.nilp,.e0]] (.tup [.int .i64,.nilf]) [.box bdB [.mpb 0 0,.own 1],.arr (.int .u8) .no] d=zcB d:=Eq.trans (b:=zcv d) (by kernel_rfl) (zgM d).symm
def za3(d:List UInt8×List Int):Option (Int×List Int):=zaa (zdN d.2) fun x=>gd (decide (List.length x=List.length d.2)) (gd (decide (0<List.length x)&&decide (List.length x+List.length d.1<=LIM)) (some ((d.1.length:Int),x++List.map zaF d.1)))
def zaq:List UInt8×List Int->Option (Int×List Int):=zah za3
theorem zd3(d:List UInt8×List Int):zaq d=za3 d:=congrFun (zad za3) d
def zc6:TE:=⟨51,[.mpb 0 0,.str],[.box bdB [.mpb 0 0,.own 1],.arr (.int .u8) .no],(.tup [.int .i64,.nilf]),[.box bdB [.mpb 0 0,.own 2],.dead,.arr (.int .u8) .no],zaq⟩
theorem zkt(d:List UInt8×List Int):zaj [zdT] zGY c51 [.t 4,.t 5] [.mpb 0 0,.str] [.box bdB [.mpb 0 0,.own 1],.arr (.int .u8) .no] (.tup [.int .i64,.nilf]) [.box bdB [.mpb 0 0,.own 2],.dead,.arr (.int .u8) .no] d=zaq d:=Eq.trans (b:=za3 d) (by kernel_rfl) (zd3 d).symm
def zdt(d:Field):Option (List UInt8):=zaa (zab d.list (gd (decide (List.length [91]+List.length d.of<=BIG)) (gd (decide (List.length ([91]++d.of)+List.length [93]<=BIG)) (some ([91]++d.of++[93])))) (some d.of)) fun x=>zaa (zab d.must (gd (decide (List.length x+List.length [33]<=BIG)) (some (x++[33]))) (some x)) fun x=>gd (decide (List.length [32,32]+List.length d.name<=BIG)) (gd (decide (List.length ([32,32]++d.name)+List.length [32]<=BIG)) (gd (decide (List.length ([32,32]++d.name++[32])+List.length x<=BIG)) (zaa (zam (fun(s:List UInt8×Int)=>zab (decide (s.2<(↑(List.length [d.far,d.hidden,d.shared]):Int))) (gd (decide (0<=s.2)) (zaa [d.far,d.hidden,d.shared][s.2.toNat]? fun x=>zaa (zab x (gd (decide (0<=s.2)) (zaa [[32,102,97,114],[32,104,105,100,100,101,110],[32,115,104,97,114,101,100]][s.2.toNat]? fun x=>gd (decide (List.length s.1+List.length x<=BIG)) (some (s.1++x)))) (some s.1)) fun x=>gd (zas (s.2+1)) (some (Sum.inl (x,s.2+1))))) (some (Sum.inr (s.1,s.2)))) ([32,32]++d.name++[32]++x,0)) fun(x:List UInt8×Int)=>zaa (za5 d) fun x_1=>zaa (zab x_1 (zaa (zaQ (d.needs,[32])) fun x_2=>gd (decide (List.length [32,110,101,101,100,115,32]+List.length x_2<=BIG)) (gd (decide (List.length x.1+List.length ([32,110,101,101,100,115,32]++x_2)<=BIG)) (some (x.1++([32,110,101,101,100,115,32]++x_2))))) (some x.1)) fun x=>gd (decide (List.length x+List.length [10]<=BIG)) (some (x++[10])))))
def zdA:Field->Option (List UInt8):=zah zdt
theorem zhS(d:Field):zdA d=zdt d:=congrFun (zad zdt) d
def zhu:TE:=⟨134,[.st .Field],[],(.str),[],zdA⟩
theorem zqK(d:Field):zaj [zaR,zdH] zFE zI3 [.t 2] [.st .Field] [] (.str) [] d=zdA d:=Eq.trans (b:=zdt d) (by kernel_rfl) (zhS d).symm
def zdv(d:Part):Option (List UInt8):=gd (decide (List.length [112,97,114,116,32]+List.length d.name<=BIG)) (gd (decide (List.length ([112,97,114,116,32]++d.name)+List.length [10]<=BIG)) (zaa (zcB ([112,97,114,116,32]++d.name++[10])) fun(x:Int×List Int)=>zaa (zam (fun(s:Int×List Int)=>zab (decide (s.1<(d.types.length:Int))) (gd (decide (0<=s.1)) (zaa d.types[s.1.toNat]? fun x=>gd (decide (List.length [116,121,112,101,32]+List.length x.name<=BIG)) (zaa (zaq ([116,121,112,101,32]++x.name,s.2)) fun(x_1:Int×List Int)=>zaa (zab (x.key !=[]) (gd (decide (List.length [32,107,101,121,32]+List.length x.key<=BIG)) (zaa (zaq ([32,107,101,121,32]++x.key,x_1.2)) fun(x:Int×List Int)=>some x.2)) (some x_1.2)) fun x_2=>zaa (zaq ([10],x_2)) fun(x_3:Int×List Int)=>zaa (zam (fun(s:Int×List Int)=>zab (decide (s.1<(x.fields.length:Int))) (gd (decide (0<=s.1)) (zaa x.fields[s.1.toNat]? fun x=>zaa (zdA x) fun x=>zaa (zaq (x,s.2)) fun(x:Int×List Int)=>gd (zas (s.1+1)) (some (Sum.inl (s.1+1,x.2))))) (some (Sum.inr (s.1,s.2)))) (0,x_3.2)) fun(x:Int×List Int)=>gd (zas (s.1+1)) (some (Sum.inl (s.1+1,x.2)))))) (some (Sum.inr (s.1,s.2)))) (0,x.2)) fun(x:Int×List Int)=>zaa (zim x.2) fun x=>some x))
def zdB:Part->Option (List UInt8):=zah zdv
theorem zhU(d:Part):zdB d=zdv d:=congrFun (zad zdv) d
def zhv:TE:=⟨103,[.st .Part],[],(.str),[],zdB⟩
theorem zqM(d:Part):zaj [zfR,zc6,zhu,zlt] zFj zII [.t 2] [.st .Part] [] (.str) [] d=zdB d:=Eq.trans (b:=zdv d) (by kernel_rfl) (zhU d).symm
def zd7(d:Part):Option PFault:=zab (decide ((d.types.length:Int)>5)) (some {pos:=6,code:=6:PFault}) (zaa (zcI d.name) fun x=>zab (!x) (some {pos:=0,code:=1:PFault}) (zaa (zab ((d.types.length:Int)==0) (some true) (zaa d.types[Int.toNat 0]? fun x=>zab (x.name !=[113,117,101,114,121]) (some true) (zaa d.types[Int.toNat 0]? fun x=>some (x.key !=[])))) fun x=>zab x (some {pos:=0,code:=7:PFault}) (zaa (zam (fun(s:Int×Int×Int)=>zab (decide (s.1<(d.types.length:Int))) (zaa (zbT (d,s.1)) fun x=>zab (decide (x>0)) (gd (zas (s.1+1)) (some (Sum.inr (Sum.inr {pos:=s.1+1,code:=x:PFault})))) (gd (zas (s.1+1)) (some (Sum.inl (s.1+1,s.2.1,s.2.2))))) (some (Sum.inr (Sum.inl (s.1,s.2.1,s.2.2))))) (0,0,0)) fun(x:Int×Int×Int⊕PFault)=>zat x (fun d_1=>zaa (zdB d) fun x=>zab (decide ((x.length:Int)>1500)) (some {pos:=0,code:=6:PFault}) (some {pos:=0,code:=0:PFault})) fun r=>some r)))
def zek:Part->Option PFault:=zah zd7
theorem ziV(d:Part):zek d=zd7 d:=congrFun (zad zd7) d
def zit:TE:=⟨73,[.st .Part],[],(.st .PFault),[],zek⟩
theorem zsL(d:Part):zaj [zdh,zex,zhv] zJX c73 [.c 2 (some 2)] [.st .Part] [] (.st .PFault) [] d=zek d:=Eq.trans (b:=zd7 d) (by kernel_rfl) (ziV d).symm
def zhF(d:Part):Option Bool:=zaa (zek d) fun x=>some (x.pos==0&&(x.code==0&&true))
def zgg:Part->Option Bool:=zah zhF
theorem zmb(d:Part):zgg d=zhF d:=congrFun (zad zhF) d
def zh5:TE:=⟨32,[.st .Part],[],(.bool),[],zgg⟩
theorem zyz(d:Part):zaj [zit] zJy c32 [.t 2] [.st .Part] [] (.bool) [] d=zgg d:=Eq.trans (b:=zhF d) (by kernel_rfl) (zmb d).symm
def zcr(d:Part×Part):Option Bool:=some (d.1.name==d.2.name)
def zcy:Part×Part->Option Bool:=zah zcr
theorem zgH(d:Part×Part):zcy d=zcr d:=congrFun (zad zcr) d
def zbk:TE:=⟨61,[.st .Part,.ep .Part],[],(.bool),[],zcy⟩
theorem zoB(d:Part×Part):zaj [] zJP c61 [.t 3] [.st .Part,.ep .Part] [] (.bool) [] d=zcy d:=Eq.trans (b:=zcr d) (by kernel_rfl) (zgH d).symm
def zb2(d:List Part×Part):Option Int:=zaa (zam (fun(s:Int)=>zab (decide (s<(d.1.length:Int))) (gd (decide (0<=s)) (zaa d.1[s.toNat]? fun x=>zaa (zcy (x,d.2)) fun x=>zab x (some (Sum.inr (Sum.inr s))) (gd (zas (s+1)) (some (Sum.inl (s+1)))))) (some (Sum.inr (Sum.inl s)))) 0) fun(x:Int⊕Int)=>zat x (fun d=>some (-1)) fun r=>some r
def zb9:List Part×Part->Option Int:=zah zb2
theorem zf0(d:List Part×Part):zb9 d=zb2 d:=congrFun (zad zb2) d
def ze4:TE:=⟨93,[.lst (.nm .Part),.fn 61 [.ep .Part]],[],(.int .i64),[],zb9⟩
theorem znX(d:List Part×Part):zaj [zbk] zJ9 c93 [.t 4] [.lst (.nm .Part),.fn 61 [.ep .Part]] [] (.int .i64) [] d=zb9 d:=Eq.trans (b:=zb2 d) (by kernel_rfl) (zf0 d).symm
def zbZ(d:List Part×Part):Option Bool:=zaa (zb9 (d.1,d.2)) fun x=>some (decide (x>=0))
def zb6:List Part×Part->Option Bool:=zah zbZ
theorem zfX(d:List Part×Part):zb6 d=zbZ d:=congrFun (zad zbZ) d
def ze1:TE:=⟨60,[.lst (.nm .Part),.fn 61 [.ep .Part]],[],(.bool),[],zb6⟩
theorem znU(d:List Part×Part):zaj [ze4,zbk] zJO c60 [.t 4] [.lst (.nm .Part),.fn 61 [.ep .Part]] [] (.bool) [] d=zb6 d:=Eq.trans (b:=zbZ d) (by kernel_rfl) (zfX d).symm
def zjn(d:List Part×List UInt8):Option (List UInt8):=zaa (zam (fun(s:Int)=>zab (decide (s<(d.1.length:Int))) (gd (decide (0<=s)) (zaa d.1[s.toNat]? fun x=>zaa (zbp (x,d.2)) fun(x:Typ×Bool)=>zab (x.1.key !=[]) (some (Sum.inr (Sum.inr x.1.key))) (gd (zas (s+1)) (some (Sum.inl (s+1)))))) (some (Sum.inr (Sum.inl s)))) 0) fun(x:Int⊕List UInt8)=>zat x (fun d=>some []) fun r=>some r
def zgG:List Part×List UInt8->Option (List UInt8):=zah zjn
theorem znY(d:List Part×List UInt8):zgG d=zjn d:=congrFun (zad zjn) d
def zgT:TE:=⟨62,[.lst (.nm .Part),.str],[],(.str),[],zgG⟩
theorem zA1(d:List Part×List UInt8):zaj [zbr] zJQ c62 [.t 4] [.lst (.nm .Part),.str] [] (.str) [] d=zgG d:=Eq.trans (b:=zjn d) (by kernel_rfl) (znY d).symm
def zdu(d:Part×List UInt8×List UInt8):Option (Field×Bool):=zaa (zbp (d.1,d.2.1)) fun(x:Typ×Bool)=>zaa (zbq ({name:=x.1.name,key:=x.1.key,fields:=x.1.fields:Typ},d.2.2)) fun(x:Field×Bool)=>some ({name:=x.1.name,of:=x.1.of,list:=x.1.list,must:=x.1.must,far:=x.1.far,hidden:=x.1.hidden,shared:=x.1.shared,needs:=x.1.needs:Field},x.2)
def zcH:Part×List UInt8×List UInt8->Option (Field×Bool):=zah zdu
theorem zhT(d:Part×List UInt8×List UInt8):zcH d=zdu d:=congrFun (zad zdu) d
def zdG:TE:=⟨74,[.st .Part,.str,.str],[],(.tup [.st .Field,.bool]),[],zcH⟩
theorem zqL(d:Part×List UInt8×List UInt8):zaj [zbr,zbs] zJY c74 [.c 6 (some 8),.t 7] [.st .Part,.str,.str] [] (.tup [.st .Field,.bool]) [] d=zcH d:=Eq.trans (b:=zdu d) (by kernel_rfl) (zhT d).symm
def zfm(d:List Part×List UInt8×List UInt8):Option (List Field):=zaa (zam (fun(s:Int×List Field)=>zab (decide (s.1<(d.1.length:Int))) (gd (decide (0<=s.1)) (zaa d.1[s.1.toNat]? fun x=>zaa (zcH (x,d.2.1,d.2.2)) fun(x:Field×Bool)=>zaa (zab x.2 (gd (decide (List.length s.2+List.length [{name:=x.1.name,of:=x.1.of,list:=x.1.list,must:=x.1.must,far:=x.1.far,hidden:=x.1.hidden,shared:=x.1.shared,needs:=x.1.needs:Field}]<=LIM)) (some (s.2++[{name:=x.1.name,of:=x.1.of,list:=x.1.list,must:=x.1.must,far:=x.1.far,hidden:=x.1.hidden,shared:=x.1.shared,needs:=x.1.needs:Field}]))) (some s.2)) fun x=>gd (zas (s.1+1)) (some (Sum.inl (s.1+1,x))))) (some (Sum.inr (s.1,s.2)))) (0,[])) fun(x:Int×List Field)=>some x.2
def zci:List Part×List UInt8×List UInt8->Option (List Field):=zah zfm
theorem zjx(d:List Part×List UInt8×List UInt8):zci d=zfm d:=congrFun (zad zfm) d
def zbV:TE:=⟨69,[.lst (.nm .Part),.str,.str],[],(.lst (.nm .Field)),[],zci⟩
theorem zul(d:List Part×List UInt8×List UInt8):zaj [zdG] zJU c69 [.t 6] [.lst (.nm .Part),.str,.str] [] (.lst (.nm .Field)) [] d=zci d:=Eq.trans (b:=zfm d) (by kernel_rfl) (zjx d).symm
def zfp(d:Field×Field):Option Bool:=zaa (zab (d.1.of !=d.2.of) (some true) (zab (d.1.list !=d.2.list) (some true) (some (d.1.must !=d.2.must)))) fun x=>some x
def zdY:Field×Field->Option Bool:=zah zfp
theorem zjC(d:Field×Field):zdY d=zfp d:=congrFun (zad zfp) d
def zc0:TE:=⟨95,[.st .Field,.ep .Field],[],(.bool),[],zdY⟩
theorem zuo(d:Field×Field):zaj [] zKb c95 [.t 3] [.st .Field,.ep .Field] [] (.bool) [] d=zdY d:=Eq.trans (b:=zfp d) (by kernel_rfl) (zjC d).symm
def zef(d:List Field×Field):Option Int:=zaa (zam (fun(s:Int)=>zab (decide (s<(d.1.length:Int))) (gd (decide (0<=s)) (zaa d.1[s.toNat]? fun x=>zaa (zdY (x,d.2)) fun x=>zab x (some (Sum.inr (Sum.inr s))) (gd (zas (s+1)) (some (Sum.inl (s+1)))))) (some (Sum.inr (Sum.inl s)))) 0) fun(x:Int⊕Int)=>zat x (fun d=>some (-1)) fun r=>some r
def zet:List Field×Field->Option Int:=zah zef
theorem zi3(d:List Field×Field):zet d=zef d:=congrFun (zad zef) d
def ziz:TE:=⟨98,[.lst (.nm .Field),.fn 95 [.ep .Field]],[],(.int .i64),[],zet⟩
theorem zsT(d:List Field×Field):zaj [zc0] zws c98 [.t 4] [.lst (.nm .Field),.fn 95 [.ep .Field]] [] (.int .i64) [] d=zet d:=Eq.trans (b:=zef d) (by kernel_rfl) (zi3 d).symm
def zec(d:List Field×Field):Option Bool:=zaa (zet (d.1,d.2)) fun x=>some (decide (x>=0))
def zeq:List Field×Field->Option Bool:=zah zec
theorem zi0(d:List Field×Field):zeq d=zec d:=congrFun (zad zec) d
def ziw:TE:=⟨68,[.lst (.nm .Field),.fn 95 [.ep .Field]],[],(.bool),[],zeq⟩
theorem zsQ(d:List Field×Field):zaj [ziz,zc0] zyM c68 [.t 4] [.lst (.nm .Field),.fn 95 [.ep .Field]] [] (.bool) [] d=zeq d:=Eq.trans (b:=zec d) (by kernel_rfl) (zi0 d).symm
def zhG(d:List Part×Typ):Option (List UInt8):=zaa (zam (fun(s:Int)=>zab (decide (s<(d.2.fields.length:Int))) (gd (decide (0<=s)) (zaa d.2.fields[s.toNat]? fun x=>zaa (zci (d.1,d.2.name,x.name)) fun x_1=>zaa (zeq (x_1,x)) fun x_2=>zab x_2 (some (Sum.inr (Sum.inr x.name))) (gd (zas (s+1)) (some (Sum.inl (s+1)))))) (some (Sum.inr (Sum.inl s)))) 0) fun(x:Int⊕List UInt8)=>zat x (fun d=>some []) fun r=>some r
def zhY:List Part×Typ->Option (List UInt8):=zah zhG
theorem zmc(d:List Part×Typ):zhY d=zhG d:=congrFun (zad zhG) d
def zne:TE:=⟨63,[.lst (.nm .Part),.st .Typ],[],(.str),[],zhY⟩
theorem zyA(d:List Part×Typ):zaj [zbV,ziw,zc0] zJR c63 [.t 4] [.lst (.nm .Part),.st .Typ] [] (.str) [] d=zhY d:=Eq.trans (b:=zhG d) (by kernel_rfl) (zmc d).symm
def zgr(d:List Part×List UInt8×List UInt8):Option (List Int):=zaa (zam (fun(s:Int×List Int)=>zab (decide (s.1<(d.1.length:Int))) (gd (decide (0<=s.1)) (zaa d.1[s.1.toNat]? fun x=>zaa (zcH (x,d.2.1,d.2.2)) fun(x:Field×Bool)=>zaa (zab x.2 (some !x.1.far) (some false)) fun x=>zaa (zab x (gd (decide (List.length s.2+List.length [s.1]<=LIM)) (some (s.2++[s.1]))) (some s.2)) fun x=>gd (zas (s.1+1)) (some (Sum.inl (s.1+1,x))))) (some (Sum.inr (s.1,s.2)))) (0,[])) fun(x:Int×List Int)=>some x.2
def zeP:List Part×List UInt8×List UInt8->Option (List Int):=zah zgr
theorem zk0(d:List Part×List UInt8×List UInt8):zeP d=zgr d:=congrFun (zad zgr) d
def zgU:TE:=⟨33,[.lst (.nm .Part),.str,.str],[],(.lst (.int .i64)),[],zeP⟩
theorem zv2(d:List Part×List UInt8×List UInt8):zaj [zdG] zJz c33 [.t 6] [.lst (.nm .Part),.str,.str] [] (.lst (.int .i64)) [] d=zeP d:=Eq.trans (b:=zgr d) (by kernel_rfl) (zk0 d).symm
def zgs(d:List Part×List UInt8×List UInt8):Option (List (List UInt8)):=zaa (zci (d.1,d.2.1,d.2.2)) fun x=>zaa (zam (fun(s:Int)=>zab (decide (s<(x.length:Int))) (gd (decide (0<=s)) (zaa x[s.toNat]? fun x=>zaa (za5 x) fun x_1=>zab x_1 (some (Sum.inr (Sum.inr x.needs))) (gd (zas (s+1)) (some (Sum.inl (s+1)))))) (some (Sum.inr (Sum.inl s)))) 0) fun(x:Int⊕List (List UInt8))=>zat x (fun d=>some []) fun r=>some r
def zdL:List Part×List UInt8×List UInt8->Option (List (List UInt8)):=zah zgs
theorem zk1(d:List Part×List UInt8×List UInt8):zdL d=zgs d:=congrFun (zad zgs) d
def zdO:TE:=⟨72,[.lst (.nm .Part),.str,.str],[],(.lst .str),[],zdL⟩
theorem zv3(d:List Part×List UInt8×List UInt8):zaj [zbV,zaR] zJW c72 [.t 6] [.lst (.nm .Part),.str,.str] [] (.lst .str) [] d=zdL d:=Eq.trans (b:=zgs d) (by kernel_rfl) (zk1 d).symm
def zcS(d:List UInt8×List Part×List UInt8):Option Bool:=zaa (zdL (d.2.1,d.2.2,d.1)) fun x=>some (decide ((x.length:Int)>0))
def zcW:List UInt8×List Part×List UInt8->Option Bool:=zah zcS
theorem zhd(d:List UInt8×List Part×List UInt8):zcW d=zcS d:=congrFun (zad zcS) d
def zbG:TE:=⟨96,[.str,.ip [.lst (.nm .Part)],.ip [.str]],[],(.bool),[],zcW⟩
theorem zqk(d:List UInt8×List Part×List UInt8):zaj [zdO] zKc c96 [.t 4] [.str,.ip [.lst (.nm .Part)],.ip [.str]] [] (.bool) [] d=zcW d:=Eq.trans (b:=zcS d) (by kernel_rfl) (zhd d).symm
def zcu(d:List (List UInt8)×List Part×List UInt8):Option Int:=zaa (zam (fun(s:Int)=>zab (decide (s<(d.1.length:Int))) (gd (decide (0<=s)) (zaa d.1[s.toNat]? fun x=>zaa (zcW (x,d.2.1,d.2.2)) fun x=>zab x (some (Sum.inr (Sum.inr s))) (gd (zas (s+1)) (some (Sum.inl (s+1)))))) (some (Sum.inr (Sum.inl s)))) 0) fun(x:Int⊕Int)=>zat x (fun d=>some (-1)) fun r=>some r
def zcA:List (List UInt8)×List Part×List UInt8->Option Int:=zah zcu
theorem zgL(d:List (List UInt8)×List Part×List UInt8):zcA d=zcu d:=congrFun (zad zcu) d
def zfQ:TE:=⟨124,[.lst .str,.fn 96 [.ip [.lst (.nm .Part)],.ip [.str]]],[],(.int .i64),[],zcA⟩
theorem zoF(d:List (List UInt8)×List Part×List UInt8):zaj [zbG] zBp zHl [.t 4] [.lst .str,.fn 96 [.ip [.lst (.nm .Part)],.ip [.str]]] [] (.int .i64) [] d=zcA d:=Eq.trans (b:=zcu d) (by kernel_rfl) (zgL d).symm
def zcs(d:List (List UInt8)×List Part×List UInt8):Option Bool:=zaa (zcA (d.1,d.2.1,d.2.2)) fun x=>some (decide (x>=0))
def zbN:List (List UInt8)×List Part×List UInt8->Option Bool:=zah zcs
theorem zgJ(d:List (List UInt8)×List Part×List UInt8):zbN d=zcs d:=congrFun (zad zcs) d
def zfO:TE:=⟨97,[.lst .str,.fn 96 [.ip [.lst (.nm .Part)],.ip [.str]]],[],(.bool),[],zbN⟩
theorem zoC(d:List (List UInt8)×List Part×List UInt8):zaj [zfQ,zbG] zG1 c97 [.t 4] [.lst .str,.fn 96 [.ip [.lst (.nm .Part)],.ip [.str]]] [] (.bool) [] d=zbN d:=Eq.trans (b:=zcs d) (by kernel_rfl) (zgJ d).symm
def zea(d:List Part×List UInt8×List UInt8):Option Int:=zaa (zeP (d.1,d.2.1,d.2.2)) fun x=>zaa (zci (d.1,d.2.1,d.2.2)) fun x_1=>zaa (zam (fun(s:Int×Int)=>zab (decide (s.2<(x_1.length:Int))) (gd (decide (0<=s.2)) (zaa x_1[s.2.toNat]? fun x=>zaa (zab x.shared (gd (zas (s.1+1)) (some (s.1+1))) (some s.1)) fun x=>gd (zas (s.2+1)) (some (Sum.inl (x,s.2+1))))) (some (Sum.inr (s.1,s.2)))) (0,0)) fun(x_2:Int×Int)=>zaa (zdL (d.1,d.2.1,d.2.2)) fun x_3=>zab ((x.length:Int)==0) (some 6) (zaa (zab (decide ((x.length:Int)>1)) (zaa (zgG (d.1,d.2.1)) fun x_4=>zab (d.2.2 !=x_4) (some (decide (x_2.1<(x.length:Int)))) (some false)) (some false)) fun x_4=>zab x_4 (some 5) (zaa (zab (decide ((x.length:Int)>1)) (zab (decide ((x_3.length:Int)>0)) (some true) (zaa (zbN (x_3,d.1,d.2.1)) fun x=>some x)) (zaa (zbN (x_3,d.1,d.2.1)) fun x=>some x)) fun x=>zab x (some 7) (some 0)))
def zen:List Part×List UInt8×List UInt8->Option Int:=zah zea
theorem ziY(d:List Part×List UInt8×List UInt8):zen d=zea d:=congrFun (zad zea) d
def ziu:TE:=⟨64,[.lst (.nm .Part),.str,.str],[],(.int .i64),[],zen⟩
theorem zsO(d:List Part×List UInt8×List UInt8):zaj [zgU,zbV,zdO,zgT,zfO,zbG] zJS c64 [.t 6] [.lst (.nm .Part),.str,.str] [] (.int .i64) [] d=zen d:=Eq.trans (b:=zea d) (by kernel_rfl) (ziY d).symm
def zdx(d:List Part):Option CFault:=zaa (zkZ ((d.length:Int),1,4)) fun x=>zab (!x) (some {pos:=0,type:=[],field:=[],code:=8:CFault}) (zaa (zam (fun(s:Int×Int×List UInt8×List UInt8×Int)=>zab (decide (s.1<(d.length:Int))) (gd (decide (0<=s.1)) (zaa d[s.1.toNat]? fun x=>zaa (zgg x) fun x_1=>zab (!x_1) (gd (zas (s.1+1)) (some (Sum.inr (Sum.inr {pos:=s.1+1,type:=[],field:=[],code:=1:CFault})))) (gd (decide (0<=0)&&decide (0<=s.1)&&decide (s.1<=(d.length:Int))) (zaa (zb6 (List.take (s.1.toNat-Int.toNat 0) (List.drop (Int.toNat 0) d),x)) fun x=>zab x (gd (zas (s.1+1)) (some (Sum.inr (Sum.inr {pos:=s.1+1,type:=[],field:=[],code:=2:CFault})))) (gd (zas (s.1+1)) (some (Sum.inl (s.1+1,s.2.1,s.2.2.1,s.2.2.2.1,s.2.2.2.2)))))))) (some (Sum.inr (Sum.inl (s.1,s.2.1,s.2.2.1,s.2.2.2.1,s.2.2.2.2))))) (0,0,[],[],0)) fun(x:Int×Int×List UInt8×List UInt8×Int⊕CFault)=>zat x (fun d_1=>zaa (zam (fun(s:Int×Int×List UInt8×List UInt8×Int)=>zab (decide (s.1<(d.length:Int))) (gd (decide (0<=s.1)) (zaa d[s.1.toNat]? fun x=>zaa (zam (fun(s_1:Int×Int×List UInt8×List UInt8×Int)=>zab (decide (s_1.1<(x.types.length:Int))) (gd (decide (0<=s_1.1)) (zaa x.types[s_1.1.toNat]? fun x=>zaa (zab (x.key !=[]) (zaa (zgG (d,x.name)) fun x_1=>some (x.key !=x_1)) (some false)) fun x_1=>zab x_1 (gd (zas (s.1+1)) (some (Sum.inr (Sum.inr (Sum.inr (Sum.inr {pos:=s.1+1,type:=x.name,field:=[],code:=4:CFault})))))) (zaa (zhY (d,x)) fun x_2=>zab (x_2 !=[]) (gd (zas (s.1+1)) (some (Sum.inr (Sum.inr (Sum.inr (Sum.inr {pos:=s.1+1,type:=x.name,field:=x_2,code:=3:CFault})))))) (gd (zas (s_1.1+1)) (some (Sum.inl (s_1.1+1,s_1.2.1,s_1.2.2.1,s_1.2.2.2.1,s_1.2.2.2.2))))))) (some (Sum.inr (Sum.inl (s_1.1,s_1.2.1,s_1.2.2.1,s_1.2.2.2.1,s_1.2.2.2.2))))) (0,s.2.1,s.2.2.1,s.2.2.2.1,s.2.2.2.2)) fun(x:Int×Int×List UInt8×List UInt8×Int⊕Int×Int×List UInt8×List UInt8×Int⊕Int×Int×List UInt8×List UInt8×Int⊕CFault)=>zat x (fun d=>gd (zas (s.1+1)) (some (Sum.inl (s.1+1,d.2.1,d.2.2.1,d.2.2.2.1,d.2.2.2.2)))) fun r=>some r)) (some (Sum.inr (Sum.inl (s.1,s.2.1,s.2.2.1,s.2.2.2.1,s.2.2.2.2))))) (0,d_1.2.1,d_1.2.2.1,d_1.2.2.2.1,d_1.2.2.2.2)) fun(x:Int×Int×List UInt8×List UInt8×Int⊕CFault)=>zat x (fun d_2=>zaa (zam (fun(s:Int×Int×List UInt8×List UInt8×Int)=>zab (decide (s.1<(d.length:Int))) (gd (decide (0<=s.1)) (zaa d[s.1.toNat]? fun x=>zaa (zam (fun(s_1:Int×Int×List UInt8×List UInt8×Int)=>zab (decide (s_1.1<(x.types.length:Int))) (gd (decide (0<=s_1.1)) (zaa x.types[s_1.1.toNat]? fun x=>zaa (zam (fun(s_2:Int×Int×List UInt8×List UInt8×Int)=>zab (decide (s_2.1<(x.fields.length:Int))) (gd (decide (0<=s_2.1)) (zaa x.fields[s_2.1.toNat]? fun x_1=>zaa (zen (d,x.name,x_1.name)) fun x_2=>zab (decide (x_2>0)) (gd (zas (s.1+1)) (some (Sum.inr (Sum.inr (Sum.inr (Sum.inr (Sum.inr (Sum.inr {pos:=s.1+1,type:=x.name,field:=x_1.name,code:=x_2:CFault})))))))) (gd (zas (s_2.1+1)) (some (Sum.inl (s_2.1+1,s_2.2.1,s_2.2.2.1,s_2.2.2.2.1,s_2.2.2.2.2)))))) (some (Sum.inr (Sum.inl (s_2.1,s_2.2.1,s_2.2.2.1,s_2.2.2.2.1,s_2.2.2.2.2))))) (0,s_1.2.1,s_1.2.2.1,s_1.2.2.2.1,s_1.2.2.2.2)) fun(x:Int×Int×List UInt8×List UInt8×Int⊕Int×Int×List UInt8×List UInt8×Int⊕Int×Int×List UInt8×List UInt8×Int⊕Int×Int×List UInt8×List UInt8×Int⊕Int×Int×List UInt8×List UInt8×Int⊕CFault)=>zat x (fun d=>gd (zas (s_1.1+1)) (some (Sum.inl (s_1.1+1,d.2.1,d.2.2.1,d.2.2.2.1,d.2.2.2.2)))) fun r=>some r)) (some (Sum.inr (Sum.inl (s_1.1,s_1.2.1,s_1.2.2.1,s_1.2.2.2.1,s_1.2.2.2.2))))) (0,s.2.1,s.2.2.1,s.2.2.2.1,s.2.2.2.2)) fun(x:Int×Int×List UInt8×List UInt8×Int⊕Int×Int×List UInt8×List UInt8×Int⊕Int×Int×List UInt8×List UInt8×Int⊕CFault)=>zat x (fun d=>gd (zas (s.1+1)) (some (Sum.inl (s.1+1,d.2.1,d.2.2.1,d.2.2.2.1,d.2.2.2.2)))) fun r=>some r)) (some (Sum.inr (Sum.inl (s.1,s.2.1,s.2.2.1,s.2.2.2.1,s.2.2.2.2))))) (0,d_2.2.1,d_2.2.2.1,d_2.2.2.2.1,d_2.2.2.2.2)) fun(x:Int×Int×List UInt8×List UInt8×Int⊕CFault)=>zat x (fun d=>some {pos:=0,type:=[],field:=[],code:=0:CFault}) fun r=>some r) fun r=>some r) fun r=>some r)
def zdD:List Part->Option CFault:=zah zdx
theorem zhX(d:List Part):zdD d=zdx d:=congrFun (zad zdx) d
def zhx:TE:=⟨30,[.lst (.nm .Part)],[],(.st .CFault),[],zdD⟩
theorem zqO(d:List Part):zaj [zpb,zh5,ze1,zbk,zgT,zne,ziu] zJw c30 [.c 2 (some 4)] [.lst (.nm .Part)] [] (.st .CFault) [] d=zdD d:=Eq.trans (b:=zdx d) (by kernel_rfl) (zhX d).symm
def zfn(d:Typ×Typ):Option Bool:=some (d.1.name==d.2.name)
def zfy:Typ×Typ->Option Bool:=zah zfn
theorem zjy(d:Typ×Typ):zfy d=zfn d:=congrFun (zad zfn) d
def zfE:TE:=⟨66,[.st .Typ,.ep .Typ],[],(.bool),[],zfy⟩
theorem zum(d:Typ×Typ):zaj [] zJT c66 [.t 3] [.st .Typ,.ep .Typ] [] (.bool) [] d=zfy d:=Eq.trans (b:=zfn d) (by kernel_rfl) (zjy d).symm
def zed(d:List Typ×Typ):Option Int:=zaa (zam (fun(s:Int)=>zab (decide (s<(d.1.length:Int))) (gd (decide (0<=s)) (zaa d.1[s.toNat]? fun x=>zaa (zfy (x,d.2)) fun x=>zab x (some (Sum.inr (Sum.inr s))) (gd (zas (s+1)) (some (Sum.inl (s+1)))))) (some (Sum.inr (Sum.inl s)))) 0) fun(x:Int⊕Int)=>zat x (fun d=>some (-1)) fun r=>some r
def zer:List Typ×Typ->Option Int:=zah zed
theorem zi1(d:List Typ×Typ):zer d=zed d:=congrFun (zad zed) d
def zix:TE:=⟨65,[.lst (.nm .Typ),.fn 66 [.ep .Typ]],[],(.int .i64),[],zer⟩
theorem zsR(d:List Typ×Typ):zaj [zfE] zGZ c65 [.t 4] [.lst (.nm .Typ),.fn 66 [.ep .Typ]] [] (.int .i64) [] d=zer d:=Eq.trans (b:=zed d) (by kernel_rfl) (zi1 d).symm
def zfo(d:Field):Option Bool:=some d.hidden
def zfz:Field->Option Bool:=zah zfo
theorem zjz(d:Field):zfz d=zfo d:=congrFun (zad zfo) d
def zcZ:TE:=⟨70,[.st .Field],[],(.bool),[],zfz⟩
theorem zun(d:Field):zaj [] zJV c70 [.t 2] [.st .Field] [] (.bool) [] d=zfz d:=Eq.trans (b:=zfo d) (by kernel_rfl) (zjz d).symm
def zee(d:List Field):Option Int:=zaa (zam (fun(s:Int)=>zab (decide (s<(d.length:Int))) (gd (decide (0<=s)) (zaa d[s.toNat]? fun x=>zaa (zfz x) fun x=>zab x (some (Sum.inr (Sum.inr s))) (gd (zas (s+1)) (some (Sum.inl (s+1)))))) (some (Sum.inr (Sum.inl s)))) 0) fun(x:Int⊕Int)=>zat x (fun d=>some (-1)) fun r=>some r
def zes:List Field->Option Int:=zah zee
theorem zi2(d:List Field):zes d=zee d:=congrFun (zad zee) d
def ziy:TE:=⟨98,[.lst (.nm .Field),.fn 70 []],[],(.int .i64),[],zes⟩
theorem zsS(d:List Field):zaj [zcZ] zws c98 [.t 4] [.lst (.nm .Field),.fn 70 []] [] (.int .i64) [] d=zes d:=Eq.trans (b:=zee d) (by kernel_rfl) (zi2 d).symm
def zeb(d:List Field):Option Bool:=zaa (zes d) fun x=>some (decide (x>=0))
def zep:List Field->Option Bool:=zah zeb
theorem ziZ(d:List Field):zep d=zeb d:=congrFun (zad zeb) d
def ziv:TE:=⟨68,[.lst (.nm .Field),.fn 70 []],[],(.bool),[],zep⟩
theorem zsP(d:List Field):zaj [ziy,zcZ] zyM c68 [.t 4] [.lst (.nm .Field),.fn 70 []] [] (.bool) [] d=zep d:=Eq.trans (b:=zeb d) (by kernel_rfl) (ziZ d).symm
def zhD(d:List Part):Option Part:=zaa (zam (fun(s:Int×List UInt8×List Typ×List UInt8×List Typ)=>zab (decide (s.1<(d.length:Int))) (gd (decide (0<=s.1)) (zaa d[s.1.toNat]? fun x=>zaa (zam (fun(s:Int×List UInt8×List Typ×List UInt8×List Typ)=>zab (decide (s.1<(x.types.length:Int))) (gd (decide (0<=s.1)) (zaa x.types[s.1.toNat]? fun x=>zaa (zer (s.2.2.2.2,x)) fun x_1=>zaa (zab (decide (x_1<0)) (zaa (zgG (d,x.name)) fun x_2=>gd (decide (List.length s.2.2.2.2+List.length [{name:=x.name,key:=x_2,fields:=[]:Typ}]<=LIM)) (some ((s.2.2.2.2.length:Int),s.2.1,s.2.2.1,s.2.2.2.1,s.2.2.2.2++[{name:=x.name,key:=x_2,fields:=[]:Typ}]))) (some (x_1,s.2.1,s.2.2.1,s.2.2.2.1,s.2.2.2.2))) fun(x_2:Int×List UInt8×List Typ×List UInt8×List Typ)=>gd (decide (0<=x_2.1)&&decide (x_2.1<(x_2.2.2.2.2.length:Int))) (zaa (zam (fun(s:Int×Nat×List UInt8×List Typ×List UInt8×List Typ)=>zab (decide (s.1<(x.fields.length:Int))) (gd (decide (0<=s.1)) (zaa x.fields[s.1.toNat]? fun x_3=>zaa s.2.2.2.2.2[s.2.1]? fun x_4=>zaa (zb4 ((x_4.name,x_4.key),x_3.name,x_4.fields)) fun(x_5:(Field×Bool)×List Field)=>gd (decide (List.length x_5.2=List.length x_4.fields)) (zab x_5.1.2 (gd (zas (s.1+1)) (some (Sum.inl (s.1+1,s.2.1,s.2.2.1,s.2.2.2.1,s.2.2.2.2.1,List.set s.2.2.2.2.2 s.2.1 {name:=x_4.name,key:=x_4.key,fields:=x_5.2:Typ})))) (zaa (zci (d,x.name,x_3.name)) fun x_6=>zaa (zep x_6) fun x_7=>zaa (zdL (d,x.name,x_3.name)) fun x=>zaa (zaN x) fun x=>zaa (List.set s.2.2.2.2.2 s.2.1 {name:=x_4.name,key:=x_4.key,fields:=x_5.2:Typ})[s.2.1]? fun x_8=>gd (decide (List.length x_8.fields+List.length [{name:=x_3.name,of:=x_3.of,list:=x_3.list,must:=x_3.must,far:=false,hidden:=x_7,shared:=false,needs:=x:Field}]<=LIM)) (gd (decide (s.2.1=s.2.1)) (gd (zas (s.1+1)) (some (Sum.inl (s.1+1,s.2.1,s.2.2.1,s.2.2.2.1,s.2.2.2.2.1,List.set (List.set s.2.2.2.2.2 s.2.1 {name:=x_4.name,key:=x_4.key,fields:=x_5.2:Typ}) s.2.1 {name:=x_8.name,key:=x_8.key,fields:=x_8.fields++[{name:=x_3.name,of:=x_3.of,list:=x_3.list,must:=x_3.must,far:=false,hidden:=x_7,shared:=false,needs:=x:Field}]:Typ}))))))))) (some (Sum.inr (s.1,s.2.1,s.2.2.1,s.2.2.2.1,s.2.2.2.2.1,s.2.2.2.2.2)))) (0,x_2.1.toNat,x_2.2.1,x_2.2.2.1,x_2.2.2.2.1,x_2.2.2.2.2)) fun(x:Int×Nat×List UInt8×List Typ×List UInt8×List Typ)=>gd (zas (s.1+1)) (some (Sum.inl (s.1+1,x.2.2.1,x.2.2.2.1,x.2.2.2.2.1,x.2.2.2.2.2)))))) (some (Sum.inr (s.1,s.2.1,s.2.2.1,s.2.2.2.1,s.2.2.2.2)))) (0,s.2.1,s.2.2.1,s.2.2.2.1,s.2.2.2.2)) fun(x:Int×List UInt8×List Typ×List UInt8×List Typ)=>gd (zas (s.1+1)) (some (Sum.inl (s.1+1,x.2.1,x.2.2.1,x.2.2.2.1,x.2.2.2.2))))) (some (Sum.inr (s.1,s.2.1,s.2.2.1,s.2.2.2.1,s.2.2.2.2)))) (0,[],[],[97],[])) fun(x:Int×List UInt8×List Typ×List UInt8×List Typ)=>some {name:=x.2.2.2.1,types:=x.2.2.2.2:Part}
def zgf:List Part->Option Part:=zah zhD
theorem zma(d:List Part):zgf d=zhD d:=congrFun (zad zhD) d
def znd:TE:=⟨31,[.lst (.nm .Part)],[],(.st .Part),[],zgf⟩
theorem zyy(d:List Part):zaj [zix,zfE,zgT,zbs,zeY,zbV,ziv,zcZ,zdO,zbt] zJx c31 [.c 2 (some 2)] [.lst (.nm .Part)] [] (.st .Part) [] d=zgf d:=Eq.trans (b:=zhD d) (by kernel_rfl) (zma d).symm
def zd6(d:List Part):Option (Chart×CFault):=zaa (zdD d) fun x=>zab (decide (x.code>0)) (some ({all:={name:=[],types:=[]:Part},owners:=[]:Chart},x)) (zaa (zgf d) fun x=>zaa (zgg x) fun x_1=>zab (!x_1) (some ({all:={name:=[],types:=[]:Part},owners:=[]:Chart},{pos:=0,type:=[],field:=[],code:=8:CFault})) (zaa (zam (fun(s:Int×List UInt8×List Typ×List Own×(Int×List UInt8×List UInt8×Int)×(List UInt8×List Typ)×List Own)=>zab (decide (s.1<(x.types.length:Int))) (gd (decide (0<=s.1)) (zaa x.types[s.1.toNat]? fun x=>zaa (zam (fun(s:Int×List UInt8×List Typ×List Own×(Int×List UInt8×List UInt8×Int)×(List UInt8×List Typ)×List Own)=>zab (decide (s.1<(x.fields.length:Int))) (gd (decide (0<=s.1)) (zaa x.fields[s.1.toNat]? fun x_2=>zaa (zeP (d,x.name,x_2.name)) fun x_3=>gd (decide (List.length s.2.2.2.2.2.2+List.length [{type:=x.name,field:=x_2.name,parts:=x_3:Own}]<=LIM)) (gd (zas (s.1+1)) (some (Sum.inl (s.1+1,s.2.1,s.2.2.1,s.2.2.2.1,(s.2.2.2.2.1.1,s.2.2.2.2.1.2.1,s.2.2.2.2.1.2.2.1,s.2.2.2.2.1.2.2.2),(s.2.2.2.2.2.1.1,s.2.2.2.2.2.1.2),s.2.2.2.2.2.2++[{type:=x.name,field:=x_2.name,parts:=x_3:Own}])))))) (some (Sum.inr (s.1,s.2.1,s.2.2.1,s.2.2.2.1,(s.2.2.2.2.1.1,s.2.2.2.2.1.2.1,s.2.2.2.2.1.2.2.1,s.2.2.2.2.1.2.2.2),(s.2.2.2.2.2.1.1,s.2.2.2.2.2.1.2),s.2.2.2.2.2.2)))) (0,s.2.1,s.2.2.1,s.2.2.2.1,(s.2.2.2.2.1.1,s.2.2.2.2.1.2.1,s.2.2.2.2.1.2.2.1,s.2.2.2.2.1.2.2.2),(s.2.2.2.2.2.1.1,s.2.2.2.2.2.1.2),s.2.2.2.2.2.2)) fun(x:Int×List UInt8×List Typ×List Own×(Int×List UInt8×List UInt8×Int)×(List UInt8×List Typ)×List Own)=>gd (zas (s.1+1)) (some (Sum.inl (s.1+1,x.2.1,x.2.2.1,x.2.2.2.1,(x.2.2.2.2.1.1,x.2.2.2.2.1.2.1,x.2.2.2.2.1.2.2.1,x.2.2.2.2.1.2.2.2),(x.2.2.2.2.2.1.1,x.2.2.2.2.2.1.2),x.2.2.2.2.2.2))))) (some (Sum.inr (s.1,s.2.1,s.2.2.1,s.2.2.2.1,(s.2.2.2.2.1.1,s.2.2.2.2.1.2.1,s.2.2.2.2.1.2.2.1,s.2.2.2.2.1.2.2.2),(s.2.2.2.2.2.1.1,s.2.2.2.2.2.1.2),s.2.2.2.2.2.2)))) (0,[],[],[],(0,[],[],0),(x.name,x.types),[])) fun(x:Int×List UInt8×List Typ×List Own×(Int×List UInt8×List UInt8×Int)×(List UInt8×List Typ)×List Own)=>some ({all:={name:=x.2.2.2.2.2.1.1,types:=x.2.2.2.2.2.1.2:Part},owners:=x.2.2.2.2.2.2:Chart},{pos:=0,type:=[],field:=[],code:=0:CFault})))
def zde:List Part->Option (Chart×CFault):=zah zd6
theorem ziU(d:List Part):zde d=zd6 d:=congrFun (zad zd6) d
def zis:TE:=⟨9,[.lst (.nm .Part)],[],(.tup [.st .Chart,.st .CFault]),[],zde⟩
theorem zsK(d:List Part):zaj [zhx,znd,zh5,zgU] cy9 c9 [.c 2 (some 3),.c 3 (some 4)] [.lst (.nm .Part)] [] (.tup [.st .Chart,.st .CFault]) [] d=zde d:=Eq.trans (b:=zd6 d) (by kernel_rfl) (ziU d).symm
def zhE(d:List Part×List Int):Option (List (List UInt8)):=zaa (zam (fun(s:Int×List (List UInt8))=>zab (decide (s.1<(d.2.length:Int))) (gd (decide (0<=s.1)) (zaa d.2[s.1.toNat]? fun x=>gd (decide (0<=x)) (zaa d.1[x.toNat]? fun x=>gd (decide (List.length s.2+List.length [x.name]<=LIM)) (gd (zas (s.1+1)) (some (Sum.inl (s.1+1,s.2++[x.name]))))))) (some (Sum.inr (s.1,s.2)))) (0,[])) fun(x:Int×List (List UInt8))=>some x.2
def zfA:List Part×List Int->Option (List (List UInt8)):=zah zhE
theorem zjA(d:List Part×List Int):zfA d=zhE d:=congrFun (zad zhE) d
def zpc:TE:=⟨23,[.lst (.nm .Part),.lst (.int .i64)],[],(.lst .str),[],zfA⟩
theorem zA2(d:List Part×List Int):zaj [] zJq c23 [.t 4] [.lst (.nm .Part),.lst (.int .i64)] [] (.lst .str) [] d=zfA d:=Eq.trans (b:=zhE d) (by kernel_rfl) (zjA d).symm
def zcn(d:Own×List UInt8×List UInt8):Option Bool:=zaa (zab (d.1.type==d.2.1) (some (d.1.field==d.2.2)) (some false)) fun x=>some x
def zcw:Own×List UInt8×List UInt8->Option Bool:=zah zcn
theorem zgC(d:Own×List UInt8×List UInt8):zcw d=zcn d:=congrFun (zad zcn) d
def zcC:TE:=⟨48,[.st .Own,.ip [.str],.ip [.str]],[],(.bool),[],zcw⟩
theorem zox(d:Own×List UInt8×List UInt8):zaj [] zJG c48 [.t 4] [.st .Own,.ip [.str],.ip [.str]] [] (.bool) [] d=zcw d:=Eq.trans (b:=zcn d) (by kernel_rfl) (zgC d).symm
def zb0(d:List Own×List UInt8×List UInt8):Option Int:=zaa (zam (fun(s:Int)=>zab (decide (s<(d.1.length:Int))) (gd (decide (0<=s)) (zaa d.1[s.toNat]? fun x=>zaa (zcw (x,d.2.1,d.2.2)) fun x=>zab x (some (Sum.inr (Sum.inr s))) (gd (zas (s+1)) (some (Sum.inl (s+1)))))) (some (Sum.inr (Sum.inl s)))) 0) fun(x:Int⊕Int)=>zat x (fun d=>some (-1)) fun r=>some r
def zb7:List Own×List UInt8×List UInt8->Option Int:=zah zb0
theorem zfY(d:List Own×List UInt8×List UInt8):zb7 d=zb0 d:=congrFun (zad zb0) d
def ze2:TE:=⟨47,[.lst (.nm .Own),.fn 48 [.ip [.str],.ip [.str]]],[],(.int .i64),[],zb7⟩
theorem znV(d:List Own×List UInt8×List UInt8):zaj [zcC] zJF c47 [.t 4] [.lst (.nm .Own),.fn 48 [.ip [.str],.ip [.str]]] [] (.int .i64) [] d=zb7 d:=Eq.trans (b:=zb0 d) (by kernel_rfl) (zfY d).symm
def zds(d:Chart×List UInt8×List UInt8):Option (List Int):=zaa (zb7 (d.1.owners,d.2.1,d.2.2)) fun x=>zab (decide (x<0)) (some []) (gd (decide (0<=x)) (zaa d.1.owners[x.toNat]? fun x=>zaa (zcJ x.parts) fun x=>some x))
def zcG:Chart×List UInt8×List UInt8->Option (List Int):=zah zds
theorem zhR(d:Chart×List UInt8×List UInt8):zcG d=zds d:=congrFun (zad zds) d
def zht:TE:=⟨24,[.st .Chart,.str,.str],[],(.lst (.int .i64)),[],zcG⟩
theorem zqJ(d:Chart×List UInt8×List UInt8):zaj [ze2,zcC,zcK] zJr c24 [.t 6] [.st .Chart,.str,.str] [] (.lst (.int .i64)) [] d=zcG d:=Eq.trans (b:=zds d) (by kernel_rfl) (zhR d).symm
def zaA(d:List (List UInt8)×List (List UInt8)):Option Bool:=zab ((d.1.length:Int) !=(d.2.length:Int)) (some false) (zaa (zam (fun(s:Int)=>zab (decide (s<(d.1.length:Int))) (gd (decide (0<=s)) (zaa d.1[s.toNat]? fun x=>gd (decide (0<=s)) (zaa d.2[s.toNat]? fun x_1=>zab (x !=x_1) (some (Sum.inr (Sum.inr false))) (gd (zas (s+1)) (some (Sum.inl (s+1))))))) (some (Sum.inr (Sum.inl s)))) 0) fun(x:Int⊕Bool)=>zat x (fun d=>some true) fun r=>some r)
def zaC:List (List UInt8)×List (List UInt8)->Option Bool:=zah zaA
theorem zcb(d:List (List UInt8)×List (List UInt8)):zaC d=zaA d:=congrFun (zad zaA) d
def zbu:TE:=⟨25,[.lst .str,.lst .str],[],(.bool),[],zaC⟩
theorem zgd(d:List (List UInt8)×List (List UInt8)):zaj [] zJs c25 [.t 4] [.lst .str,.lst .str] [] (.bool) [] d=zaC d:=Eq.trans (b:=zaA d) (by kernel_rfl) (zcb d).symm
def zdr(d:List Part×List Part):Option (List (List UInt8)):=zaa (zde d.1) fun(x:Chart×CFault)=>zaa (zde d.2) fun(x_1:Chart×CFault)=>zaa (zab (decide (x.2.code>0)) (some true) (some (decide (x_1.2.code>0)))) fun x_2=>zab x_2 (some []) (zaa (zam (fun(s:Int×List (List UInt8))=>zab (decide (s.1<(x.1.owners.length:Int))) (gd (decide (0<=s.1)) (zaa x.1.owners[s.1.toNat]? fun x=>zaa (zfA (d.1,x.parts)) fun x_3=>zaa (zcG ({all:={name:=x_1.1.all.name,types:=x_1.1.all.types:Part},owners:=x_1.1.owners:Chart},x.type,x.field)) fun x_4=>zaa (zfA (d.2,x_4)) fun x_5=>zaa (zab (decide ((x_5.length:Int)>0)) (zaa (zaC (x_3,x_5)) fun x=>some !x) (some false)) fun x_6=>zaa (zab x_6 (gd (decide (List.length x.type+List.length [46]<=BIG)) (gd (decide (List.length (x.type++[46])+List.length x.field<=BIG)) (gd (decide (List.length (x.type++[46]++x.field)+List.length [58,32]<=BIG)) (zaa (zaQ (x_3,[32])) fun x_7=>gd (decide (List.length (x.type++[46]++x.field++[58,32])+List.length x_7<=BIG)) (gd (decide (List.length (x.type++[46]++x.field++[58,32]++x_7)+List.length [32,62,32]<=BIG)) (zaa (zaQ (x_5,[32])) fun x_8=>gd (decide (List.length (x.type++[46]++x.field++[58,32]++x_7++[32,62,32])+List.length x_8<=BIG)) (gd (decide (List.length s.2+List.length [x.type++[46]++x.field++[58,32]++x_7++[32,62,32]++x_8]<=LIM)) (some (s.2++[x.type++[46]++x.field++[58,32]++x_7++[32,62,32]++x_8]))))))))) (some s.2)) fun x=>gd (zas (s.1+1)) (some (Sum.inl (s.1+1,x))))) (some (Sum.inr (s.1,s.2)))) (0,[])) fun(x:Int×List (List UInt8))=>some x.2)
def zbW:List Part×List Part->Option (List (List UInt8)):=zah zdr
theorem zhQ(d:List Part×List Part):zbW d=zdr d:=congrFun (zad zdr) d
def zhs:TE:=⟨7,[.lst (.nm .Part),.lst (.nm .Part)],[],(.own 0),[.arr .str .no],zbW⟩
theorem zqI(d:List Part×List Part):zaj [zis,zpc,zht,zbu,zdH] cy7 c7 [.t 4] [.lst (.nm .Part),.lst (.nm .Part)] [] (.own 0) [.arr .str .no] d=zbW d:=Eq.trans (b:=zdr d) (by kernel_rfl) (zhQ d).symm
def zdd(d:List (List UInt8)×List (List UInt8)):Option Bool:=zab ((d.1.length:Int) !=(d.2.length:Int)) (some false) (zaa (zam (fun(s:Int)=>zab (decide (s<(d.1.length:Int))) (gd (decide (0<=s)) (zaa d.1[s.toNat]? fun x=>gd (decide (0<=s)) (zaa d.2[s.toNat]? fun x_1=>zab (x !=x_1) (some (Sum.inr (Sum.inr false))) (gd (zas (s+1)) (some (Sum.inl (s+1))))))) (some (Sum.inr (Sum.inl s)))) 0) fun(x:Int⊕Bool)=>zat x (fun d=>some true) fun r=>some r)
def zaY:List (List UInt8)×List (List UInt8)->Option Bool:=zah zdd
theorem zfL(d:List (List UInt8)×List (List UInt8)):zaY d=zdd d:=congrFun (zad zdd) d
def zey:TE:=⟨14,[.lst .str,.lst .str],[],(.bool),[],zaY⟩
theorem zsU(d:List (List UInt8)×List (List UInt8)):zaj [] zJl c14 [.t 4] [.lst .str,.lst .str] [] (.bool) [] d=zaY d:=Eq.trans (b:=zdd d) (by kernel_rfl) (zfL d).symm
def zgt(d:Field×Field):Option Bool:=zab (d.1.name !=d.2.name) (some false) (zab (d.1.of !=d.2.of) (some false) (zab (d.1.list !=d.2.list) (some false) (zab (d.1.must !=d.2.must) (some false) (zab (d.1.far !=d.2.far) (some false) (zab (d.1.hidden !=d.2.hidden) (some false) (zab (d.1.shared !=d.2.shared) (some false) (zaa (zaY (d.1.needs,d.2.needs)) fun x=>zab (!x) (some false) (some true))))))))
def zeT:Field×Field->Option Bool:=zah zgt
theorem zk3(d:Field×Field):zeT d=zgt d:=congrFun (zad zgt) d
def zlu:TE:=⟨153,[.st .Field,.st .Field],[],(.bool),[],zeT⟩
theorem zv4(d:Field×Field):zaj [zey] zFP zJe [.t 4] [.st .Field,.st .Field] [] (.bool) [] d=zeT d:=Eq.trans (b:=zgt d) (by kernel_rfl) (zk3 d).symm
def zfq(d:List Field×List Field):Option Bool:=zab ((d.1.length:Int) !=(d.2.length:Int)) (some false) (zaa (zam (fun(s:Int)=>zab (decide (s<(d.1.length:Int))) (gd (decide (0<=s)) (zaa d.1[s.toNat]? fun x=>gd (decide (0<=s)) (zaa d.2[s.toNat]? fun x_1=>zaa (zeT (x,x_1)) fun x=>zab (!x) (some (Sum.inr (Sum.inr false))) (gd (zas (s+1)) (some (Sum.inl (s+1))))))) (some (Sum.inr (Sum.inl s)))) 0) fun(x:Int⊕Bool)=>zat x (fun d=>some true) fun r=>some r)
def zfB:List Field×List Field->Option Bool:=zah zfq
theorem zjJ(d:List Field×List Field):zfB d=zfq d:=congrFun (zad zfq) d
def zjP:TE:=⟨137,[.lst (.nm .Field),.lst (.nm .Field)],[],(.bool),[],zfB⟩
theorem zup(d:List Field×List Field):zaj [zlu] zFH zI6 [.t 4] [.lst (.nm .Field),.lst (.nm .Field)] [] (.bool) [] d=zfB d:=Eq.trans (b:=zfq d) (by kernel_rfl) (zjJ d).symm
def zhL(d:Typ×Typ):Option Bool:=zab (d.1.name !=d.2.name) (some false) (zab (d.1.key !=d.2.key) (some false) (zaa (zfB (d.1.fields,d.2.fields)) fun x=>zab (!x) (some false) (some true)))
def zgj:Typ×Typ->Option Bool:=zah zhL
theorem zmj(d:Typ×Typ):zgj d=zhL d:=congrFun (zad zhL) d
def znh:TE:=⟨106,[.st .Typ,.st .Typ],[],(.bool),[],zgj⟩
theorem zyF(d:Typ×Typ):zaj [zjP] zFm zIL [.t 4] [.st .Typ,.st .Typ] [] (.bool) [] d=zgj d:=Eq.trans (b:=zhL d) (by kernel_rfl) (zmj d).symm
def zgv(d:List Typ×List Typ):Option Bool:=zab ((d.1.length:Int) !=(d.2.length:Int)) (some false) (zaa (zam (fun(s:Int)=>zab (decide (s<(d.1.length:Int))) (gd (decide (0<=s)) (zaa d.1[s.toNat]? fun x=>gd (decide (0<=s)) (zaa d.2[s.toNat]? fun x_1=>zaa (zgj (x,x_1)) fun x=>zab (!x) (some (Sum.inr (Sum.inr false))) (gd (zas (s+1)) (some (Sum.inl (s+1))))))) (some (Sum.inr (Sum.inl s)))) 0) fun(x:Int⊕Bool)=>zat x (fun d=>some true) fun r=>some r)
def zgN:List Typ×List Typ->Option Bool:=zah zgv
theorem zk5(d:List Typ×List Typ):zgN d=zgv d:=congrFun (zad zgv) d
def zlw:TE:=⟨77,[.lst (.nm .Typ),.lst (.nm .Typ)],[],(.bool),[],zgN⟩
theorem zv6(d:List Typ×List Typ):zaj [znh] zJ1 c77 [.t 4] [.lst (.nm .Typ),.lst (.nm .Typ)] [] (.bool) [] d=zgN d:=Eq.trans (b:=zgv d) (by kernel_rfl) (zk5 d).symm
def zhK(d:Part×Part):Option Bool:=zab (d.1.name !=d.2.name) (some false) (zaa (zgN (d.1.types,d.2.types)) fun x=>zab (!x) (some false) (some true))
def zgi:Part×Part->Option Bool:=zah zhK
theorem zmi(d:Part×Part):zgi d=zhK d:=congrFun (zad zhK) d
def zng:TE:=⟨36,[.st .Part,.st .Part],[],(.bool),[],zgi⟩
theorem zyE(d:Part×Part):zaj [zlw] zJC c36 [.t 4] [.st .Part,.st .Part] [] (.bool) [] d=zgi d:=Eq.trans (b:=zhK d) (by kernel_rfl) (zmi d).symm
def zgu(d:List Part×List Part):Option Bool:=zab ((d.1.length:Int) !=(d.2.length:Int)) (some false) (zaa (zam (fun(s:Int)=>zab (decide (s<(d.1.length:Int))) (gd (decide (0<=s)) (zaa d.1[s.toNat]? fun x=>gd (decide (0<=s)) (zaa d.2[s.toNat]? fun x_1=>zaa (zgi (x,x_1)) fun x=>zab (!x) (some (Sum.inr (Sum.inr false))) (gd (zas (s+1)) (some (Sum.inl (s+1))))))) (some (Sum.inr (Sum.inl s)))) 0) fun(x:Int⊕Bool)=>zat x (fun d=>some true) fun r=>some r)
def zeU:List Part×List Part->Option Bool:=zah zgu
theorem zk4(d:List Part×List Part):zeU d=zgu d:=congrFun (zad zgu) d
def zlv:TE:=⟨15,[.lst (.nm .Part),.lst (.nm .Part)],[],(.bool),[],zeU⟩
theorem zv5(d:List Part×List Part):zaj [zng] zJm c15 [.t 4] [.lst (.nm .Part),.lst (.nm .Part)] [] (.bool) [] d=zeU d:=Eq.trans (b:=zgu d) (by kernel_rfl) (zk4 d).symm
def zfr(d:Int):Option (List UInt8):=zab (decide (d<=0)) (some [109,48]) (zaa (zam (fun(s:Int×List UInt8)=>zab (decide (s.1>0)) (gd (zas (48+Int.tmod s.1 10)) (gd (decide (List.length [IntKind.wrap IntKind.u8 (48+Int.tmod s.1 10)]<=BIG)) (gd (decide (List.length (List.map znu [IntKind.wrap IntKind.u8 (48+Int.tmod s.1 10)])+List.length s.2<=BIG)) (gd (zas (Int.tdiv s.1 10)) (some (Sum.inl (Int.tdiv s.1 10,List.map znu [IntKind.wrap IntKind.u8 (48+Int.tmod s.1 10)]++s.2))))))) (some (Sum.inr (s.1,s.2)))) (d,[])) fun(x:Int×List UInt8)=>gd (decide (List.length [109]+List.length x.2<=BIG)) (some ([109]++x.2)))
def zaK:Int->Option (List UInt8):=zah zfr
theorem zjK(d:Int):zaK d=zfr d:=congrFun (zad zfr) d
def zbb:TE:=⟨37,[.int .i64],[],(.str),[],zaK⟩
theorem zuq(d:Int):zaj [] zJD c37 [.t 2] [.int .i64] [] (.str) [] d=zaK d:=Eq.trans (b:=zfr d) (by kernel_rfl) (zjK d).symm
def zcU(d:Int×List (List UInt8)):Option (Int×List (List UInt8)):=zaa (zam (fun(s:Int×Int×List (List UInt8))=>zab (decide (s.2.1<(s.2.2.length:Int))) (zaa (zaK s.1) fun x=>gd (decide (0<=s.2.1)&&decide (s.2.1<(s.2.2.length:Int))) (zaa s.2.2[s.2.1.toNat]? fun x_1=>gd (zas (s.1+1)) (gd (zas (s.2.1+1)) (some (Sum.inl (s.1+1,s.2.1+1,List.set s.2.2 (s.2.1.toNat) x)))))) (some (Sum.inr (s.1,s.2.1,s.2.2)))) (d.1,0,d.2)) fun(x:Int×Int×List (List UInt8))=>some (x.1,x.2.2)
def zce:Int×List (List UInt8)->Option (Int×List (List UInt8)):=zah zcU
theorem zhf(d:Int×List (List UInt8)):zce d=zcU d:=congrFun (zad zcU) d
def zc7:TE:=⟨17,[.own 0,.int .i64],[.arr .str .no],(.int .i64),[.arr .str .no],zce⟩
theorem zqm(d:Int×List (List UInt8)):zaj [zbb] zJo c17 [.t 4] [.own 0,.int .i64] [.arr .str .no] (.int .i64) [.arr .str .no] d=zce d:=Eq.trans (b:=zcU d) (by kernel_rfl) (zhf d).symm
def zdz(d:Int×List Field):Option (Int×List Field):=zaa (zam (fun(s:Int×Int×List Field)=>zab (decide (s.2.1<(s.2.2.length:Int))) (zaa (zaK s.1) fun x=>gd (decide (0<=s.2.1)&&decide (s.2.1<(s.2.2.length:Int))) (zaa s.2.2[s.2.1.toNat]? fun x_1=>gd (zas (s.1+1)) (zaa (zaK (s.1+1)) fun x_2=>gd (decide (0<=s.2.1)&&decide (s.2.1<(↑(List.length (List.set s.2.2 (s.2.1.toNat) {name:=x,of:=x_1.of,list:=x_1.list,must:=x_1.must,far:=x_1.far,hidden:=x_1.hidden,shared:=x_1.shared,needs:=x_1.needs:Field})):Int))) (zaa (List.set s.2.2 (s.2.1.toNat) {name:=x,of:=x_1.of,list:=x_1.list,must:=x_1.must,far:=x_1.far,hidden:=x_1.hidden,shared:=x_1.shared,needs:=x_1.needs:Field})[s.2.1.toNat]? fun x_3=>gd (zas (s.1+1+1)) (gd (decide (0<=s.2.1)&&decide (s.2.1<(↑(List.length (List.set (List.set s.2.2 (s.2.1.toNat) {name:=x,of:=x_1.of,list:=x_1.list,must:=x_1.must,far:=x_1.far,hidden:=x_1.hidden,shared:=x_1.shared,needs:=x_1.needs:Field}) (s.2.1.toNat) {name:=x_3.name,of:=x_2,list:=x_3.list,must:=x_3.must,far:=x_3.far,hidden:=x_3.hidden,shared:=x_3.shared,needs:=x_3.needs:Field})):Int))) (zaa (List.set (List.set s.2.2 (s.2.1.toNat) {name:=x,of:=x_1.of,list:=x_1.list,must:=x_1.must,far:=x_1.far,hidden:=x_1.hidden,shared:=x_1.shared,needs:=x_1.needs:Field}) (s.2.1.toNat) {name:=x_3.name,of:=x_2,list:=x_3.list,must:=x_3.must,far:=x_3.far,hidden:=x_3.hidden,shared:=x_3.shared,needs:=x_3.needs:Field})[s.2.1.toNat]? fun x_4=>gd (zas (s.1+1+1+1)) (gd (decide (0<=s.2.1)&&decide (s.2.1<(↑(List.length (List.set (List.set (List.set s.2.2 (s.2.1.toNat) {name:=x,of:=x_1.of,list:=x_1.list,must:=x_1.must,far:=x_1.far,hidden:=x_1.hidden,shared:=x_1.shared,needs:=x_1.needs:Field}) (s.2.1.toNat) {name:=x_3.name,of:=x_2,list:=x_3.list,must:=x_3.must,far:=x_3.far,hidden:=x_3.hidden,shared:=x_3.shared,needs:=x_3.needs:Field}) (s.2.1.toNat) {name:=x_4.name,of:=x_4.of,list:=Int.tmod (s.1+1+1) 3==0,must:=x_4.must,far:=x_4.far,hidden:=x_4.hidden,shared:=x_4.shared,needs:=x_4.needs:Field})):Int))) (zaa (List.set (List.set (List.set s.2.2 (s.2.1.toNat) {name:=x,of:=x_1.of,list:=x_1.list,must:=x_1.must,far:=x_1.far,hidden:=x_1.hidden,shared:=x_1.shared,needs:=x_1.needs:Field}) (s.2.1.toNat) {name:=x_3.name,of:=x_2,list:=x_3.list,must:=x_3.must,far:=x_3.far,hidden:=x_3.hidden,shared:=x_3.shared,needs:=x_3.needs:Field}) (s.2.1.toNat) {name:=x_4.name,of:=x_4.of,list:=Int.tmod (s.1+1+1) 3==0,must:=x_4.must,far:=x_4.far,hidden:=x_4.hidden,shared:=x_4.shared,needs:=x_4.needs:Field})[s.2.1.toNat]? fun x_5=>gd (zas (s.1+1+1+1+1)) (gd (decide (0<=s.2.1)&&decide (s.2.1<(↑(List.length (List.set (List.set (List.set (List.set s.2.2 (s.2.1.toNat) {name:=x,of:=x_1.of,list:=x_1.list,must:=x_1.must,far:=x_1.far,hidden:=x_1.hidden,shared:=x_1.shared,needs:=x_1.needs:Field}) (s.2.1.toNat) {name:=x_3.name,of:=x_2,list:=x_3.list,must:=x_3.must,far:=x_3.far,hidden:=x_3.hidden,shared:=x_3.shared,needs:=x_3.needs:Field}) (s.2.1.toNat) {name:=x_4.name,of:=x_4.of,list:=Int.tmod (s.1+1+1) 3==0,must:=x_4.must,far:=x_4.far,hidden:=x_4.hidden,shared:=x_4.shared,needs:=x_4.needs:Field}) (s.2.1.toNat) {name:=x_5.name,of:=x_5.of,list:=x_5.list,must:=Int.tmod (s.1+1+1+1) 3==0,far:=x_5.far,hidden:=x_5.hidden,shared:=x_5.shared,needs:=x_5.needs:Field})):Int))) (zaa (List.set (List.set (List.set (List.set s.2.2 (s.2.1.toNat) {name:=x,of:=x_1.of,list:=x_1.list,must:=x_1.must,far:=x_1.far,hidden:=x_1.hidden,shared:=x_1.shared,needs:=x_1.needs:Field}) (s.2.1.toNat) {name:=x_3.name,of:=x_2,list:=x_3.list,must:=x_3.must,far:=x_3.far,hidden:=x_3.hidden,shared:=x_3.shared,needs:=x_3.needs:Field}) (s.2.1.toNat) {name:=x_4.name,of:=x_4.of,list:=Int.tmod (s.1+1+1) 3==0,must:=x_4.must,far:=x_4.far,hidden:=x_4.hidden,shared:=x_4.shared,needs:=x_4.needs:Field}) (s.2.1.toNat) {name:=x_5.name,of:=x_5.of,list:=x_5.list,must:=Int.tmod (s.1+1+1+1) 3==0,far:=x_5.far,hidden:=x_5.hidden,shared:=x_5.shared,needs:=x_5.needs:Field})[s.2.1.toNat]? fun x_6=>gd (zas (s.1+1+1+1+1+1)) (gd (decide (0<=s.2.1)&&decide (s.2.1<(↑(List.length (List.set (List.set (List.set (List.set (List.set s.2.2 (s.2.1.toNat) {name:=x,of:=x_1.of,list:=x_1.list,must:=x_1.must,far:=x_1.far,hidden:=x_1.hidden,shared:=x_1.shared,needs:=x_1.needs:Field}) (s.2.1.toNat) {name:=x_3.name,of:=x_2,list:=x_3.list,must:=x_3.must,far:=x_3.far,hidden:=x_3.hidden,shared:=x_3.shared,needs:=x_3.needs:Field}) (s.2.1.toNat) {name:=x_4.name,of:=x_4.of,list:=Int.tmod (s.1+1+1) 3==0,must:=x_4.must,far:=x_4.far,hidden:=x_4.hidden,shared:=x_4.shared,needs:=x_4.needs:Field}) (s.2.1.toNat) {name:=x_5.name,of:=x_5.of,list:=x_5.list,must:=Int.tmod (s.1+1+1+1) 3==0,far:=x_5.far,hidden:=x_5.hidden,shared:=x_5.shared,needs:=x_5.needs:Field}) (s.2.1.toNat) {name:=x_6.name,of:=x_6.of,list:=x_6.list,must:=x_6.must,far:=Int.tmod (s.1+1+1+1+1) 3==0,hidden:=x_6.hidden,shared:=x_6.shared,needs:=x_6.needs:Field})):Int))) (zaa (List.set (List.set (List.set (List.set (List.set s.2.2 (s.2.1.toNat) {name:=x,of:=x_1.of,list:=x_1.list,must:=x_1.must,far:=x_1.far,hidden:=x_1.hidden,shared:=x_1.shared,needs:=x_1.needs:Field}) (s.2.1.toNat) {name:=x_3.name,of:=x_2,list:=x_3.list,must:=x_3.must,far:=x_3.far,hidden:=x_3.hidden,shared:=x_3.shared,needs:=x_3.needs:Field}) (s.2.1.toNat) {name:=x_4.name,of:=x_4.of,list:=Int.tmod (s.1+1+1) 3==0,must:=x_4.must,far:=x_4.far,hidden:=x_4.hidden,shared:=x_4.shared,needs:=x_4.needs:Field}) (s.2.1.toNat) {name:=x_5.name,of:=x_5.of,list:=x_5.list,must:=Int.tmod (s.1+1+1+1) 3==0,far:=x_5.far,hidden:=x_5.hidden,shared:=x_5.shared,needs:=x_5.needs:Field}) (s.2.1.toNat) {name:=x_6.name,of:=x_6.of,list:=x_6.list,must:=x_6.must,far:=Int.tmod (s.1+1+1+1+1) 3==0,hidden:=x_6.hidden,shared:=x_6.shared,needs:=x_6.needs:Field})[s.2.1.toNat]? fun x_7=>gd (zas (s.1+1+1+1+1+1+1)) (gd (decide (0<=s.2.1)&&decide (s.2.1<(↑(List.length (List.set (List.set (List.set (List.set (List.set (List.set s.2.2 (s.2.1.toNat) {name:=x,of:=x_1.of,list:=x_1.list,must:=x_1.must,far:=x_1.far,hidden:=x_1.hidden,shared:=x_1.shared,needs:=x_1.needs:Field}) (s.2.1.toNat) {name:=x_3.name,of:=x_2,list:=x_3.list,must:=x_3.must,far:=x_3.far,hidden:=x_3.hidden,shared:=x_3.shared,needs:=x_3.needs:Field}) (s.2.1.toNat) {name:=x_4.name,of:=x_4.of,list:=Int.tmod (s.1+1+1) 3==0,must:=x_4.must,far:=x_4.far,hidden:=x_4.hidden,shared:=x_4.shared,needs:=x_4.needs:Field}) (s.2.1.toNat) {name:=x_5.name,of:=x_5.of,list:=x_5.list,must:=Int.tmod (s.1+1+1+1) 3==0,far:=x_5.far,hidden:=x_5.hidden,shared:=x_5.shared,needs:=x_5.needs:Field}) (s.2.1.toNat) {name:=x_6.name,of:=x_6.of,list:=x_6.list,must:=x_6.must,far:=Int.tmod (s.1+1+1+1+1) 3==0,hidden:=x_6.hidden,shared:=x_6.shared,needs:=x_6.needs:Field}) (s.2.1.toNat) {name:=x_7.name,of:=x_7.of,list:=x_7.list,must:=x_7.must,far:=x_7.far,hidden:=Int.tmod (s.1+1+1+1+1+1) 3==0,shared:=x_7.shared,needs:=x_7.needs:Field})):Int))) (zaa (List.set (List.set (List.set (List.set (List.set (List.set s.2.2 (s.2.1.toNat) {name:=x,of:=x_1.of,list:=x_1.list,must:=x_1.must,far:=x_1.far,hidden:=x_1.hidden,shared:=x_1.shared,needs:=x_1.needs:Field}) (s.2.1.toNat) {name:=x_3.name,of:=x_2,list:=x_3.list,must:=x_3.must,far:=x_3.far,hidden:=x_3.hidden,shared:=x_3.shared,needs:=x_3.needs:Field}) (s.2.1.toNat) {name:=x_4.name,of:=x_4.of,list:=Int.tmod (s.1+1+1) 3==0,must:=x_4.must,far:=x_4.far,hidden:=x_4.hidden,shared:=x_4.shared,needs:=x_4.needs:Field}) (s.2.1.toNat) {name:=x_5.name,of:=x_5.of,list:=x_5.list,must:=Int.tmod (s.1+1+1+1) 3==0,far:=x_5.far,hidden:=x_5.hidden,shared:=x_5.shared,needs:=x_5.needs:Field}) (s.2.1.toNat) {name:=x_6.name,of:=x_6.of,list:=x_6.list,must:=x_6.must,far:=Int.tmod (s.1+1+1+1+1) 3==0,hidden:=x_6.hidden,shared:=x_6.shared,needs:=x_6.needs:Field}) (s.2.1.toNat) {name:=x_7.name,of:=x_7.of,list:=x_7.list,must:=x_7.must,far:=x_7.far,hidden:=Int.tmod (s.1+1+1+1+1+1) 3==0,shared:=x_7.shared,needs:=x_7.needs:Field})[s.2.1.toNat]? fun x_8=>gd (zas (s.1+1+1+1+1+1+1+1)) (gd (decide (0<=s.2.1)&&decide (s.2.1<(↑(List.length (List.set (List.set (List.set (List.set (List.set (List.set (List.set s.2.2 (s.2.1.toNat) {name:=x,of:=x_1.of,list:=x_1.list,must:=x_1.must,far:=x_1.far,hidden:=x_1.hidden,shared:=x_1.shared,needs:=x_1.needs:Field}) (s.2.1.toNat) {name:=x_3.name,of:=x_2,list:=x_3.list,must:=x_3.must,far:=x_3.far,hidden:=x_3.hidden,shared:=x_3.shared,needs:=x_3.needs:Field}) (s.2.1.toNat) {name:=x_4.name,of:=x_4.of,list:=Int.tmod (s.1+1+1) 3==0,must:=x_4.must,far:=x_4.far,hidden:=x_4.hidden,shared:=x_4.shared,needs:=x_4.needs:Field}) (s.2.1.toNat) {name:=x_5.name,of:=x_5.of,list:=x_5.list,must:=Int.tmod (s.1+1+1+1) 3==0,far:=x_5.far,hidden:=x_5.hidden,shared:=x_5.shared,needs:=x_5.needs:Field}) (s.2.1.toNat) {name:=x_6.name,of:=x_6.of,list:=x_6.list,must:=x_6.must,far:=Int.tmod (s.1+1+1+1+1) 3==0,hidden:=x_6.hidden,shared:=x_6.shared,needs:=x_6.needs:Field}) (s.2.1.toNat) {name:=x_7.name,of:=x_7.of,list:=x_7.list,must:=x_7.must,far:=x_7.far,hidden:=Int.tmod (s.1+1+1+1+1+1) 3==0,shared:=x_7.shared,needs:=x_7.needs:Field}) (s.2.1.toNat) {name:=x_8.name,of:=x_8.of,list:=x_8.list,must:=x_8.must,far:=x_8.far,hidden:=x_8.hidden,shared:=Int.tmod (s.1+1+1+1+1+1+1) 3==0,needs:=x_8.needs:Field})):Int))) (zaa (List.set (List.set (List.set (List.set (List.set (List.set (List.set s.2.2 (s.2.1.toNat) {name:=x,of:=x_1.of,list:=x_1.list,must:=x_1.must,far:=x_1.far,hidden:=x_1.hidden,shared:=x_1.shared,needs:=x_1.needs:Field}) (s.2.1.toNat) {name:=x_3.name,of:=x_2,list:=x_3.list,must:=x_3.must,far:=x_3.far,hidden:=x_3.hidden,shared:=x_3.shared,needs:=x_3.needs:Field}) (s.2.1.toNat) {name:=x_4.name,of:=x_4.of,list:=Int.tmod (s.1+1+1) 3==0,must:=x_4.must,far:=x_4.far,hidden:=x_4.hidden,shared:=x_4.shared,needs:=x_4.needs:Field}) (s.2.1.toNat) {name:=x_5.name,of:=x_5.of,list:=x_5.list,must:=Int.tmod (s.1+1+1+1) 3==0,far:=x_5.far,hidden:=x_5.hidden,shared:=x_5.shared,needs:=x_5.needs:Field}) (s.2.1.toNat) {name:=x_6.name,of:=x_6.of,list:=x_6.list,must:=x_6.must,far:=Int.tmod (s.1+1+1+1+1) 3==0,hidden:=x_6.hidden,shared:=x_6.shared,needs:=x_6.needs:Field}) (s.2.1.toNat) {name:=x_7.name,of:=x_7.of,list:=x_7.list,must:=x_7.must,far:=x_7.far,hidden:=Int.tmod (s.1+1+1+1+1+1) 3==0,shared:=x_7.shared,needs:=x_7.needs:Field}) (s.2.1.toNat) {name:=x_8.name,of:=x_8.of,list:=x_8.list,must:=x_8.must,far:=x_8.far,hidden:=x_8.hidden,shared:=Int.tmod (s.1+1+1+1+1+1+1) 3==0,needs:=x_8.needs:Field})[s.2.1.toNat]? fun x_9=>zaa (zce (s.1+1+1+1+1+1+1+1,x_9.needs)) fun(x_10:Int×List (List UInt8))=>gd (decide (List.length x_10.2=List.length x_9.needs)) (gd (zas (s.2.1+1)) (some (Sum.inl (x_10.1,s.2.1+1,List.set (List.set (List.set (List.set (List.set (List.set (List.set (List.set s.2.2 (s.2.1.toNat) {name:=x,of:=x_1.of,list:=x_1.list,must:=x_1.must,far:=x_1.far,hidden:=x_1.hidden,shared:=x_1.shared,needs:=x_1.needs:Field}) (s.2.1.toNat) {name:=x_3.name,of:=x_2,list:=x_3.list,must:=x_3.must,far:=x_3.far,hidden:=x_3.hidden,shared:=x_3.shared,needs:=x_3.needs:Field}) (s.2.1.toNat) {name:=x_4.name,of:=x_4.of,list:=Int.tmod (s.1+1+1) 3==0,must:=x_4.must,far:=x_4.far,hidden:=x_4.hidden,shared:=x_4.shared,needs:=x_4.needs:Field}) (s.2.1.toNat) {name:=x_5.name,of:=x_5.of,list:=x_5.list,must:=Int.tmod (s.1+1+1+1) 3==0,far:=x_5.far,hidden:=x_5.hidden,shared:=x_5.shared,needs:=x_5.needs:Field}) (s.2.1.toNat) {name:=x_6.name,of:=x_6.of,list:=x_6.list,must:=x_6.must,far:=Int.tmod (s.1+1+1+1+1) 3==0,hidden:=x_6.hidden,shared:=x_6.shared,needs:=x_6.needs:Field}) (s.2.1.toNat) {name:=x_7.name,of:=x_7.of,list:=x_7.list,must:=x_7.must,far:=x_7.far,hidden:=Int.tmod (s.1+1+1+1+1+1) 3==0,shared:=x_7.shared,needs:=x_7.needs:Field}) (s.2.1.toNat) {name:=x_8.name,of:=x_8.of,list:=x_8.list,must:=x_8.must,far:=x_8.far,hidden:=x_8.hidden,shared:=Int.tmod (s.1+1+1+1+1+1+1) 3==0,needs:=x_8.needs:Field}) (s.2.1.toNat) {name:=x_9.name,of:=x_9.of,list:=x_9.list,must:=x_9.must,far:=x_9.far,hidden:=x_9.hidden,shared:=x_9.shared,needs:=x_10.2:Field})))))))))))))))))))) (some (Sum.inr (s.1,s.2.1,s.2.2)))) (d.1,0,d.2)) fun(x:Int×Int×List Field)=>some (x.1,x.2.2)
def zdF:Int×List Field->Option (Int×List Field):=zah zdz
theorem zh0(d:Int×List Field):zdF d=zdz d:=congrFun (zad zdz) d
def zhz:TE:=⟨78,[.own 0,.int .i64],[.arr (.nm .Field) (.at [(7,.no)])],(.int .i64),[.arr (.nm .Field) (.at [(7,.no)])],zdF⟩
theorem zqP(d:Int×List Field):zaj [zbb,zc7] zJ2 c78 [.t 4] [.own 0,.int .i64] [.arr (.nm .Field) (.at [(7,.no)])] (.int .i64) [.arr (.nm .Field) (.at [(7,.no)])] d=zdF d:=Eq.trans (b:=zdz d) (by kernel_rfl) (zh0 d).symm
def zeh(d:Int×List Typ):Option (Int×List Typ):=zaa (zam (fun(s:Int×Int×List Typ)=>zab (decide (s.2.1<(s.2.2.length:Int))) (zaa (zaK s.1) fun x=>gd (decide (0<=s.2.1)&&decide (s.2.1<(s.2.2.length:Int))) (zaa s.2.2[s.2.1.toNat]? fun x_1=>gd (zas (s.1+1)) (zaa (zaK (s.1+1)) fun x_2=>gd (decide (0<=s.2.1)&&decide (s.2.1<(↑(List.length (List.set s.2.2 (s.2.1.toNat) {name:=x,key:=x_1.key,fields:=x_1.fields:Typ})):Int))) (zaa (List.set s.2.2 (s.2.1.toNat) {name:=x,key:=x_1.key,fields:=x_1.fields:Typ})[s.2.1.toNat]? fun x_3=>gd (zas (s.1+1+1)) (gd (decide (0<=s.2.1)&&decide (s.2.1<(↑(List.length (List.set (List.set s.2.2 (s.2.1.toNat) {name:=x,key:=x_1.key,fields:=x_1.fields:Typ}) (s.2.1.toNat) {name:=x_3.name,key:=x_2,fields:=x_3.fields:Typ})):Int))) (zaa (List.set (List.set s.2.2 (s.2.1.toNat) {name:=x,key:=x_1.key,fields:=x_1.fields:Typ}) (s.2.1.toNat) {name:=x_3.name,key:=x_2,fields:=x_3.fields:Typ})[s.2.1.toNat]? fun x_4=>zaa (zdF (s.1+1+1,x_4.fields)) fun(x_5:Int×List Field)=>gd (decide (List.length x_5.2=List.length x_4.fields)) (gd (zas (s.2.1+1)) (some (Sum.inl (x_5.1,s.2.1+1,List.set (List.set (List.set s.2.2 (s.2.1.toNat) {name:=x,key:=x_1.key,fields:=x_1.fields:Typ}) (s.2.1.toNat) {name:=x_3.name,key:=x_2,fields:=x_3.fields:Typ}) (s.2.1.toNat) {name:=x_4.name,key:=x_4.key,fields:=x_5.2:Typ})))))))))) (some (Sum.inr (s.1,s.2.1,s.2.2)))) (d.1,0,d.2)) fun(x:Int×Int×List Typ)=>some (x.1,x.2.2)
def zeu:Int×List Typ->Option (Int×List Typ):=zah zeh
theorem zi5(d:Int×List Typ):zeu d=zeh d:=congrFun (zad zeh) d
def ziB:TE:=⟨38,[.own 0,.int .i64],[.arr (.nm .Typ) (.at [(2,.at [(7,.no)])])],(.int .i64),[.arr (.nm .Typ) (.at [(2,.at [(7,.no)])])],zeu⟩
theorem zsW(d:Int×List Typ):zaj [zbb,zhz] zJE c38 [.t 4] [.own 0,.int .i64] [.arr (.nm .Typ) (.at [(2,.at [(7,.no)])])] (.int .i64) [.arr (.nm .Typ) (.at [(2,.at [(7,.no)])])] d=zeu d:=Eq.trans (b:=zeh d) (by kernel_rfl) (zi5 d).symm
def zeg(d:Int×List Part):Option (Int×List Part):=zaa (zam (fun(s:Int×Int×List Part)=>zab (decide (s.2.1<(s.2.2.length:Int))) (zaa (zaK s.1) fun x=>gd (decide (0<=s.2.1)&&decide (s.2.1<(s.2.2.length:Int))) (zaa s.2.2[s.2.1.toNat]? fun x_1=>gd (zas (s.1+1)) (gd (decide (0<=s.2.1)&&decide (s.2.1<(↑(List.length (List.set s.2.2 (s.2.1.toNat) {name:=x,types:=x_1.types:Part})):Int))) (zaa (List.set s.2.2 (s.2.1.toNat) {name:=x,types:=x_1.types:Part})[s.2.1.toNat]? fun x_2=>zaa (zeu (s.1+1,x_2.types)) fun(x_3:Int×List Typ)=>gd (decide (List.length x_3.2=List.length x_2.types)) (gd (zas (s.2.1+1)) (some (Sum.inl (x_3.1,s.2.1+1,List.set (List.set s.2.2 (s.2.1.toNat) {name:=x,types:=x_1.types:Part}) (s.2.1.toNat) {name:=x_2.name,types:=x_3.2:Part})))))))) (some (Sum.inr (s.1,s.2.1,s.2.2)))) (d.1,0,d.2)) fun(x:Int×Int×List Part)=>some (x.1,x.2.2)
def zdf:Int×List Part->Option (Int×List Part):=zah zeg
theorem zi4(d:Int×List Part):zdf d=zeg d:=congrFun (zad zeg) d
def ziA:TE:=⟨16,[.own 0,.int .i64],[.arr (.nm .Part) (.at [(1,.at [(2,.at [(7,.no)])])])],(.int .i64),[.arr (.nm .Part) (.at [(1,.at [(2,.at [(7,.no)])])])],zdf⟩
theorem zsV(d:Int×List Part):zaj [zbb,ziB] zJn c16 [.t 4] [.own 0,.int .i64] [.arr (.nm .Part) (.at [(1,.at [(2,.at [(7,.no)])])])] (.int .i64) [.arr (.nm .Part) (.at [(1,.at [(2,.at [(7,.no)])])])] d=zdf d:=Eq.trans (b:=zeg d) (by kernel_rfl) (zi4 d).symm
def zcT(d:List (List UInt8)×Int):Option Int:=zaa (zam (fun(s:Int×Int)=>zab (decide (s.2<(d.1.length:Int))) (gd (decide (0<=s.2)) (zaa d.1[s.2.toNat]? fun x=>zaa (zaK s.1) fun x_1=>zab (x !=x_1) (some (Sum.inr (Sum.inr (-1)))) (gd (zas (s.1+1)) (gd (zas (s.2+1)) (some (Sum.inl (s.1+1,s.2+1))))))) (some (Sum.inr (Sum.inl (s.1,s.2))))) (d.2,0)) fun(x:Int×Int⊕Int)=>zat x (fun d=>some d.1) fun r=>some r
def zcd:List (List UInt8)×Int->Option Int:=zah zcT
theorem zhe(d:List (List UInt8)×Int):zcd d=zcT d:=congrFun (zad zcT) d
def zgV:TE:=⟨18,[.lst .str,.int .i64],[],(.int .i64),[],zcd⟩
theorem zql(d:List (List UInt8)×Int):zaj [zbb] zJp c18 [.t 4] [.lst .str,.int .i64] [] (.int .i64) [] d=zcd d:=Eq.trans (b:=zcT d) (by kernel_rfl) (zhe d).symm
def za4(d:List Part×List Part):Option Bool:=zaa (zeW (d.1,1048576)) fun x=>zab (decide (x<0)) (some true) (zaa (zeW (d.2,x)) fun x=>zab (decide (x<0)) (some true) (zaa (zbi d.1) fun x=>zaa (zbi d.2) fun x_1=>zaa (zdX (x,x_1)) fun x=>zaa (zbi d.1) fun x_2=>zaa (zbi d.2) fun x_3=>zaa (zbW (x_2,x_3)) fun x_4=>zaa (zaY (x_4,x)) fun x_5=>zab (!x_5) (some false) (zaa (zbi d.1) fun x_6=>zaa (zeU (x_2,x_6)) fun x_7=>zab (!x_7) (some false) (zaa (zbi d.2) fun x_8=>zaa (zeU (x_3,x_8)) fun x_9=>zab (!x_9) (some false) (zaa (zdf (1,x_2)) fun(x_10:Int×List Part)=>gd (decide (List.length x_10.2=List.length x_2)) (zaa (zdf (x_10.1,x_3)) fun(x_11:Int×List Part)=>gd (decide (List.length x_11.2=List.length x_3)) (zaa (zab (decide (x_11.1<0)) (some (true,x,x_4)) (zaa (zaY (x_4,x)) fun x_12=>some (!x_12,x,x_4))) fun(x:Bool×List (List UInt8)×List (List UInt8))=>zab x.1 (some false) (zaa (zce (1,x.2.2)) fun(x_12:Int×List (List UInt8))=>gd (decide (List.length x_12.2=List.length x.2.2)) (zaa (zcd (x_12.2,1)) fun x_13=>zab (decide (x_13<0)) (some false) (zab (x_13 !=x_12.1) (some false) (zaa (zbi d.1) fun x_14=>zaa (zbi d.2) fun x_15=>zaa (zbW (x_14,x_15)) fun x_16=>zaa (zaY (x_16,x.2.1)) fun x=>zab (!x) (some false) (zaa (zcd (x_12.2,1)) fun x=>zab (decide (x<0)) (some false) (zab (x !=x_12.1) (some false) (some true))))))))))))))
def zba:List Part×List Part->Option Bool:=zah za4
theorem zd4(d:List Part×List Part):zba d=za4 d:=congrFun (zad za4) d
def zfF:TE:=⟨4,[.lst (.nm .Part),.lst (.nm .Part)],[],(.bool),[],zba⟩
theorem zku(d:List Part×List Part):zaj [zly,zlB,zjO,zhs,zey,zlv,ziA,zc7,zgV] cy4 c4 [.t 4] [.lst (.nm .Part),.lst (.nm .Part)] [] (.bool) [] d=zba d:=Eq.trans (b:=za4 d) (by kernel_rfl) (zd4 d).symm
end
end Go.Fw
namespace Go.Fw
open Go Go.Proofs
set_option maxRecDepth 100000
set_option linter.unusedVariables false
theorem zbc:Tryz.prog.follows .mixedOrders=true:=by kernel_rfl
theorem zIa:FnOk Tryz.prog 157 zJf 2 [.t 4]:=⟨⟨Tryz.f157,Tryz.func157,by kernel_rfl⟩,Tryz.call157,zbc⟩
theorem zH7:FnOk Tryz.prog 151 zJc 2 [.t 4]:=⟨⟨Tryz.f151,Tryz.func151,by kernel_rfl⟩,Tryz.call151,zbc⟩
theorem zHZ:FnOk Tryz.prog 135 zI4 2 [.t 4]:=⟨⟨Tryz.f135,Tryz.func135,by kernel_rfl⟩,Tryz.call135,zbc⟩
theorem zHE:FnOk Tryz.prog 104 zIJ 2 [.t 4]:=⟨⟨Tryz.f104,Tryz.func104,by kernel_rfl⟩,Tryz.call104,zbc⟩
theorem zK4:FnOk Tryz.prog 75 c75 2 [.t 4]:=⟨⟨Tryz.f75,Tryz.func75,by kernel_rfl⟩,Tryz.call75,zbc⟩
theorem zKF:FnOk Tryz.prog 34 c34 2 [.t 4]:=⟨⟨Tryz.f34,Tryz.func34,by kernel_rfl⟩,Tryz.call34,zbc⟩
theorem zKo:FnOk Tryz.prog 12 c12 2 [.t 4]:=⟨⟨Tryz.f12,Tryz.func12,by kernel_rfl⟩,Tryz.call12,zbc⟩
theorem zIb:FnOk Tryz.prog 158 zJg 1 [.t 2]:=⟨⟨Tryz.f158,Tryz.func158,by kernel_rfl⟩,Tryz.call158,zbc⟩
theorem zH8:FnOk Tryz.prog 152 zJd 1 [.c 2 (some 8)]:=⟨⟨Tryz.f152,Tryz.func152,by kernel_rfl⟩,Tryz.call152,zbc⟩
theorem zH0:FnOk Tryz.prog 136 zI5 1 [.t 2]:=⟨⟨Tryz.f136,Tryz.func136,by kernel_rfl⟩,Tryz.call136,zbc⟩
theorem zHF:FnOk Tryz.prog 105 zIK 1 [.c 2 (some 3)]:=⟨⟨Tryz.f105,Tryz.func105,by kernel_rfl⟩,Tryz.call105,zbc⟩
theorem zK5:FnOk Tryz.prog 76 c76 1 [.t 2]:=⟨⟨Tryz.f76,Tryz.func76,by kernel_rfl⟩,Tryz.call76,zbc⟩
theorem zKG:FnOk Tryz.prog 35 c35 1 [.c 2 (some 2)]:=⟨⟨Tryz.f35,Tryz.func35,by kernel_rfl⟩,Tryz.call35,zbc⟩
theorem zKp:FnOk Tryz.prog 13 c13 1 [.t 2]:=⟨⟨Tryz.f13,Tryz.func13,by kernel_rfl⟩,Tryz.call13,zbc⟩
theorem zH2:FnOk Tryz.prog 146 zI7 3 [.t 6]:=⟨⟨Tryz.f146,Tryz.func146,by kernel_rfl⟩,Tryz.call146,zbc⟩
theorem zHJ:FnOk Tryz.prog 118 zIO 1 [.t 2]:=⟨⟨Tryz.f118,Tryz.func118,by kernel_rfl⟩,Tryz.call118,zbc⟩
theorem zHK:FnOk Tryz.prog 119 zIP 1 [.t 2]:=⟨⟨Tryz.f119,Tryz.func119,by kernel_rfl⟩,Tryz.call119,zbc⟩
theorem zLb:FnOk Tryz.prog 90 c90 1 [.t 2]:=⟨⟨Tryz.f90,Tryz.func90,by kernel_rfl⟩,Tryz.call90,zbc⟩
theorem zKQ:FnOk Tryz.prog 57 c57 2 [.t 4]:=⟨⟨Tryz.f57,Tryz.func57,by kernel_rfl⟩,Tryz.call57,zbc⟩
theorem zKR:FnOk Tryz.prog 58 c58 2 [.t 4]:=⟨⟨Tryz.f58,Tryz.func58,by kernel_rfl⟩,Tryz.call58,zbc⟩
theorem zHL:FnOk Tryz.prog 120 zIQ 1 [.t 2]:=⟨⟨Tryz.f120,Tryz.func120,by kernel_rfl⟩,Tryz.call120,zbc⟩
theorem zHM:FnOk Tryz.prog 121 zIR 2 [.t 4]:=⟨⟨Tryz.f121,Tryz.func121,by kernel_rfl⟩,Tryz.call121,zbc⟩
theorem zLc:FnOk Tryz.prog 91 c91 2 [.t 4]:=⟨⟨Tryz.f91,Tryz.func91,by kernel_rfl⟩,Tryz.call91,zbc⟩
theorem zHN:FnOk Tryz.prog 122 zIS 1 [.t 2]:=⟨⟨Tryz.f122,Tryz.func122,by kernel_rfl⟩,Tryz.call122,zbc⟩
theorem zLd:FnOk Tryz.prog 92 c92 1 [.t 2]:=⟨⟨Tryz.f92,Tryz.func92,by kernel_rfl⟩,Tryz.call92,zbc⟩
theorem zKO:FnOk Tryz.prog 55 c55 1 [.c 2 (some 2)]:=⟨⟨Tryz.f55,Tryz.func55,by kernel_rfl⟩,Tryz.call55,zbc⟩
theorem zK8:FnOk Tryz.prog 87 c87 2 [.t 4]:=⟨⟨Tryz.f87,Tryz.func87,by kernel_rfl⟩,Tryz.call87,zbc⟩
theorem zKz:FnOk Tryz.prog 28 c28 3 [.c 6 (some 8),.t 7]:=⟨⟨Tryz.f28,Tryz.func28,by kernel_rfl⟩,Tryz.call28,zbc⟩
theorem zKP:FnOk Tryz.prog 56 c56 3 [.t 6]:=⟨⟨Tryz.f56,Tryz.func56,by kernel_rfl⟩,Tryz.call56,zbc⟩
theorem zHI:FnOk Tryz.prog 117 zIN 2 [.t 4]:=⟨⟨Tryz.f117,Tryz.func117,by kernel_rfl⟩,Tryz.call117,zbc⟩
theorem zK9:FnOk Tryz.prog 88 c88 4 [.t 8]:=⟨⟨Tryz.f88,Tryz.func88,by kernel_rfl⟩,Tryz.call88,zbc⟩
theorem zKM:FnOk Tryz.prog 53 c53 1 [.c 2 (some 4)]:=⟨⟨Tryz.f53,Tryz.func53,by kernel_rfl⟩,Tryz.call53,zbc⟩
theorem zLa:FnOk Tryz.prog 89 c89 2 [.c 4 (some 3)]:=⟨⟨Tryz.f89,Tryz.func89,by kernel_rfl⟩,Tryz.call89,zbc⟩
theorem zKN:FnOk Tryz.prog 54 c54 1 [.c 2 (some 2)]:=⟨⟨Tryz.f54,Tryz.func54,by kernel_rfl⟩,Tryz.call54,zbc⟩
theorem zKy:FnOk Tryz.prog 27 c27 1 [.c 2 (some 3),.c 3 (some 4)]:=⟨⟨Tryz.f27,Tryz.func27,by kernel_rfl⟩,Tryz.call27,zbc⟩
theorem zKA:FnOk Tryz.prog 29 c29 3 [.t 6]:=⟨⟨Tryz.f29,Tryz.func29,by kernel_rfl⟩,Tryz.call29,zbc⟩
theorem ok8:FnOk Tryz.prog 8 c8 2 [.t 4]:=⟨⟨Tryz.f8,Tryz.func8,by kernel_rfl⟩,Tryz.call8,zbc⟩
theorem zKS:FnOk Tryz.prog 59 c59 3 [.t 6]:=⟨⟨Tryz.f59,Tryz.func59,by kernel_rfl⟩,Tryz.call59,zbc⟩
theorem zHP:FnOk Tryz.prog 125 zIU 1 [.t 2]:=⟨⟨Tryz.f125,Tryz.func125,by kernel_rfl⟩,Tryz.call125,zbc⟩
theorem zH3:FnOk Tryz.prog 147 zI8 2 [.t 4]:=⟨⟨Tryz.f147,Tryz.func147,by kernel_rfl⟩,Tryz.call147,zbc⟩
theorem zHQ:FnOk Tryz.prog 126 zIV 2 [.t 4]:=⟨⟨Tryz.f126,Tryz.func126,by kernel_rfl⟩,Tryz.call126,zbc⟩
theorem zHB:FnOk Tryz.prog 101 zIG 1 [.t 2]:=⟨⟨Tryz.f101,Tryz.func101,by kernel_rfl⟩,Tryz.call101,zbc⟩
theorem zHO:FnOk Tryz.prog 123 zIT 2 [.t 3]:=⟨⟨Tryz.f123,Tryz.func123,by kernel_rfl⟩,Tryz.call123,zbc⟩
theorem zKi:FnOk Tryz.prog 65 c65 2 [.t 4]:=⟨⟨Tryz.f65,Tryz.func65,by kernel_rfl⟩,Tryz.call65,zbc⟩
theorem zLf:FnOk Tryz.prog 94 c94 2 [.c 4 (some 3),.t 5]:=⟨⟨Tryz.f94,Tryz.func94,by kernel_rfl⟩,Tryz.call94,zbc⟩
theorem zHH:FnOk Tryz.prog 110 zIM 1 [.t 2]:=⟨⟨Tryz.f110,Tryz.func110,by kernel_rfl⟩,Tryz.call110,zbc⟩
theorem zH4:FnOk Tryz.prog 148 zI9 1 [.t 2]:=⟨⟨Tryz.f148,Tryz.func148,by kernel_rfl⟩,Tryz.call148,zbc⟩
theorem zGh:FnOk Tryz.prog 124 zHl 2 [.t 4]:=⟨⟨Tryz.f124,Tryz.func124,by kernel_rfl⟩,Tryz.call124,zbc⟩
theorem zKk:FnOk Tryz.prog 97 c97 2 [.t 4]:=⟨⟨Tryz.f97,Tryz.func97,by kernel_rfl⟩,Tryz.call97,zbc⟩
theorem zH5:FnOk Tryz.prog 149 zJa 2 [.t 3]:=⟨⟨Tryz.f149,Tryz.func149,by kernel_rfl⟩,Tryz.call149,zbc⟩
theorem zD8:FnOk Tryz.prog 98 c98 2 [.t 4]:=⟨⟨Tryz.f98,Tryz.func98,by kernel_rfl⟩,Tryz.call98,zbc⟩
theorem zE3:FnOk Tryz.prog 68 c68 2 [.t 4]:=⟨⟨Tryz.f68,Tryz.func68,by kernel_rfl⟩,Tryz.call68,zbc⟩
theorem zHS:FnOk Tryz.prog 128 zIX 1 [.t 2]:=⟨⟨Tryz.f128,Tryz.func128,by kernel_rfl⟩,Tryz.call128,zbc⟩
theorem zHU:FnOk Tryz.prog 130 zIZ 1 [.t 2]:=⟨⟨Tryz.f130,Tryz.func130,by kernel_rfl⟩,Tryz.call130,zbc⟩
theorem zHT:FnOk Tryz.prog 129 zIY 1 [.t 2]:=⟨⟨Tryz.f129,Tryz.func129,by kernel_rfl⟩,Tryz.call129,zbc⟩
theorem zHR:FnOk Tryz.prog 127 zIW 2 [.t 3]:=⟨⟨Tryz.f127,Tryz.func127,by kernel_rfl⟩,Tryz.call127,zbc⟩
theorem zLi:FnOk Tryz.prog 99 c99 2 [.t 3]:=⟨⟨Tryz.f99,Tryz.func99,by kernel_rfl⟩,Tryz.call99,zbc⟩
theorem zKj:FnOk Tryz.prog 67 c67 2 [.c 4 (some 8),.t 5]:=⟨⟨Tryz.f67,Tryz.func67,by kernel_rfl⟩,Tryz.call67,zbc⟩
theorem zHA:FnOk Tryz.prog 100 zIF 1 [.t 2]:=⟨⟨Tryz.f100,Tryz.func100,by kernel_rfl⟩,Tryz.call100,zbc⟩
theorem zH6:FnOk Tryz.prog 150 zJb 1 [.t 2]:=⟨⟨Tryz.f150,Tryz.func150,by kernel_rfl⟩,Tryz.call150,zbc⟩
theorem zHV:FnOk Tryz.prog 131 zI0 1 [.t 2]:=⟨⟨Tryz.f131,Tryz.func131,by kernel_rfl⟩,Tryz.call131,zbc⟩
theorem zHW:FnOk Tryz.prog 132 zI1 2 [.t 4]:=⟨⟨Tryz.f132,Tryz.func132,by kernel_rfl⟩,Tryz.call132,zbc⟩
theorem zHX:FnOk Tryz.prog 133 zI2 1 [.t 2]:=⟨⟨Tryz.f133,Tryz.func133,by kernel_rfl⟩,Tryz.call133,zbc⟩
theorem zHC:FnOk Tryz.prog 102 zIH 2 [.t 4]:=⟨⟨Tryz.f102,Tryz.func102,by kernel_rfl⟩,Tryz.call102,zbc⟩
theorem zKh:FnOk Tryz.prog 51 c51 2 [.t 4,.t 5]:=⟨⟨Tryz.f51,Tryz.func51,by kernel_rfl⟩,Tryz.call51,zbc⟩
theorem zHY:FnOk Tryz.prog 134 zI3 1 [.t 2]:=⟨⟨Tryz.f134,Tryz.func134,by kernel_rfl⟩,Tryz.call134,zbc⟩
theorem zHD:FnOk Tryz.prog 103 zII 1 [.t 2]:=⟨⟨Tryz.f103,Tryz.func103,by kernel_rfl⟩,Tryz.call103,zbc⟩
theorem zK2:FnOk Tryz.prog 73 c73 1 [.c 2 (some 2)]:=⟨⟨Tryz.f73,Tryz.func73,by kernel_rfl⟩,Tryz.call73,zbc⟩
theorem zKD:FnOk Tryz.prog 32 c32 1 [.t 2]:=⟨⟨Tryz.f32,Tryz.func32,by kernel_rfl⟩,Tryz.call32,zbc⟩
theorem zKU:FnOk Tryz.prog 61 c61 2 [.t 3]:=⟨⟨Tryz.f61,Tryz.func61,by kernel_rfl⟩,Tryz.call61,zbc⟩
theorem zLe:FnOk Tryz.prog 93 c93 2 [.t 4]:=⟨⟨Tryz.f93,Tryz.func93,by kernel_rfl⟩,Tryz.call93,zbc⟩
theorem zKT:FnOk Tryz.prog 60 c60 2 [.t 4]:=⟨⟨Tryz.f60,Tryz.func60,by kernel_rfl⟩,Tryz.call60,zbc⟩
theorem zKV:FnOk Tryz.prog 62 c62 2 [.t 4]:=⟨⟨Tryz.f62,Tryz.func62,by kernel_rfl⟩,Tryz.call62,zbc⟩
theorem zK3:FnOk Tryz.prog 74 c74 3 [.c 6 (some 8),.t 7]:=⟨⟨Tryz.f74,Tryz.func74,by kernel_rfl⟩,Tryz.call74,zbc⟩
theorem zKZ:FnOk Tryz.prog 69 c69 3 [.t 6]:=⟨⟨Tryz.f69,Tryz.func69,by kernel_rfl⟩,Tryz.call69,zbc⟩
theorem zLg:FnOk Tryz.prog 95 c95 2 [.t 3]:=⟨⟨Tryz.f95,Tryz.func95,by kernel_rfl⟩,Tryz.call95,zbc⟩
theorem zKW:FnOk Tryz.prog 63 c63 2 [.t 4]:=⟨⟨Tryz.f63,Tryz.func63,by kernel_rfl⟩,Tryz.call63,zbc⟩
theorem zKE:FnOk Tryz.prog 33 c33 3 [.t 6]:=⟨⟨Tryz.f33,Tryz.func33,by kernel_rfl⟩,Tryz.call33,zbc⟩
theorem zK1:FnOk Tryz.prog 72 c72 3 [.t 6]:=⟨⟨Tryz.f72,Tryz.func72,by kernel_rfl⟩,Tryz.call72,zbc⟩
theorem zLh:FnOk Tryz.prog 96 c96 3 [.t 4]:=⟨⟨Tryz.f96,Tryz.func96,by kernel_rfl⟩,Tryz.call96,zbc⟩
theorem zKX:FnOk Tryz.prog 64 c64 3 [.t 6]:=⟨⟨Tryz.f64,Tryz.func64,by kernel_rfl⟩,Tryz.call64,zbc⟩
theorem zKB:FnOk Tryz.prog 30 c30 1 [.c 2 (some 4)]:=⟨⟨Tryz.f30,Tryz.func30,by kernel_rfl⟩,Tryz.call30,zbc⟩
theorem zKY:FnOk Tryz.prog 66 c66 2 [.t 3]:=⟨⟨Tryz.f66,Tryz.func66,by kernel_rfl⟩,Tryz.call66,zbc⟩
theorem zK0:FnOk Tryz.prog 70 c70 1 [.t 2]:=⟨⟨Tryz.f70,Tryz.func70,by kernel_rfl⟩,Tryz.call70,zbc⟩
theorem zKC:FnOk Tryz.prog 31 c31 1 [.c 2 (some 2)]:=⟨⟨Tryz.f31,Tryz.func31,by kernel_rfl⟩,Tryz.call31,zbc⟩
theorem ok9:FnOk Tryz.prog 9 c9 1 [.c 2 (some 3),.c 3 (some 4)]:=⟨⟨Tryz.f9,Tryz.func9,by kernel_rfl⟩,Tryz.call9,zbc⟩
theorem zKv:FnOk Tryz.prog 23 c23 2 [.t 4]:=⟨⟨Tryz.f23,Tryz.func23,by kernel_rfl⟩,Tryz.call23,zbc⟩
theorem zKL:FnOk Tryz.prog 48 c48 3 [.t 4]:=⟨⟨Tryz.f48,Tryz.func48,by kernel_rfl⟩,Tryz.call48,zbc⟩
theorem zKK:FnOk Tryz.prog 47 c47 2 [.t 4]:=⟨⟨Tryz.f47,Tryz.func47,by kernel_rfl⟩,Tryz.call47,zbc⟩
theorem zKw:FnOk Tryz.prog 24 c24 3 [.t 6]:=⟨⟨Tryz.f24,Tryz.func24,by kernel_rfl⟩,Tryz.call24,zbc⟩
theorem zKx:FnOk Tryz.prog 25 c25 2 [.t 4]:=⟨⟨Tryz.f25,Tryz.func25,by kernel_rfl⟩,Tryz.call25,zbc⟩
theorem ok7:FnOk Tryz.prog 7 c7 2 [.t 4]:=⟨⟨Tryz.f7,Tryz.func7,by kernel_rfl⟩,Tryz.call7,zbc⟩
theorem zKq:FnOk Tryz.prog 14 c14 2 [.t 4]:=⟨⟨Tryz.f14,Tryz.func14,by kernel_rfl⟩,Tryz.call14,zbc⟩
theorem zH9:FnOk Tryz.prog 153 zJe 2 [.t 4]:=⟨⟨Tryz.f153,Tryz.func153,by kernel_rfl⟩,Tryz.call153,zbc⟩
theorem zH1:FnOk Tryz.prog 137 zI6 2 [.t 4]:=⟨⟨Tryz.f137,Tryz.func137,by kernel_rfl⟩,Tryz.call137,zbc⟩
theorem zHG:FnOk Tryz.prog 106 zIL 2 [.t 4]:=⟨⟨Tryz.f106,Tryz.func106,by kernel_rfl⟩,Tryz.call106,zbc⟩
theorem zK6:FnOk Tryz.prog 77 c77 2 [.t 4]:=⟨⟨Tryz.f77,Tryz.func77,by kernel_rfl⟩,Tryz.call77,zbc⟩
theorem zKH:FnOk Tryz.prog 36 c36 2 [.t 4]:=⟨⟨Tryz.f36,Tryz.func36,by kernel_rfl⟩,Tryz.call36,zbc⟩
theorem zKr:FnOk Tryz.prog 15 c15 2 [.t 4]:=⟨⟨Tryz.f15,Tryz.func15,by kernel_rfl⟩,Tryz.call15,zbc⟩
theorem zKI:FnOk Tryz.prog 37 c37 1 [.t 2]:=⟨⟨Tryz.f37,Tryz.func37,by kernel_rfl⟩,Tryz.call37,zbc⟩
theorem zKt:FnOk Tryz.prog 17 c17 2 [.t 4]:=⟨⟨Tryz.f17,Tryz.func17,by kernel_rfl⟩,Tryz.call17,zbc⟩
theorem zK7:FnOk Tryz.prog 78 c78 2 [.t 4]:=⟨⟨Tryz.f78,Tryz.func78,by kernel_rfl⟩,Tryz.call78,zbc⟩
theorem zKJ:FnOk Tryz.prog 38 c38 2 [.t 4]:=⟨⟨Tryz.f38,Tryz.func38,by kernel_rfl⟩,Tryz.call38,zbc⟩
theorem zKs:FnOk Tryz.prog 16 c16 2 [.t 4]:=⟨⟨Tryz.f16,Tryz.func16,by kernel_rfl⟩,Tryz.call16,zbc⟩
theorem zKu:FnOk Tryz.prog 18 c18 2 [.t 4]:=⟨⟨Tryz.f18,Tryz.func18,by kernel_rfl⟩,Tryz.call18,zbc⟩
theorem ok4:FnOk Tryz.prog 4 c4 2 [.t 4]:=⟨⟨Tryz.f4,Tryz.func4,by kernel_rfl⟩,Tryz.call4,zbc⟩
theorem zrV:EOk Tryz.prog ziC:=EOk.pure (Φ:=[]) (tys:=zFQ) zIa rfl (trivial) rfl rfl (zsX)
theorem zvd:EOk Tryz.prog zlx:=EOk.pure (Φ:=[ziC]) (tys:=zFN) zH7 rfl (⟨zrV,trivial⟩) rfl rfl (zv7)
theorem ztM:EOk Tryz.prog zjQ:=EOk.pure (Φ:=[zlx]) (tys:=zFF) zHZ rfl (⟨zvd,trivial⟩) rfl rfl (zur)
theorem zxQ:EOk Tryz.prog znj:=EOk.pure (Φ:=[zjQ]) (tys:=zFk) zHE rfl (⟨ztM,trivial⟩) rfl rfl (zyH)
theorem zvf:EOk Tryz.prog zlz:=EOk.pure (Φ:=[znj]) (tys:=zJZ) zK4 rfl (⟨zxQ,trivial⟩) rfl rfl (zv9)
theorem zxP:EOk Tryz.prog zni:=EOk.pure (Φ:=[zlz]) (tys:=zJA) zKF rfl (⟨zvf,trivial⟩) rfl rfl (zyG)
theorem zve:EOk Tryz.prog zly:=EOk.pure (Φ:=[zni]) (tys:=zJj) zKo rfl (⟨zxP,trivial⟩) rfl rfl (zv8)
theorem zrW:EOk Tryz.prog ziD:=EOk.te (Φ:=[]) (tys:=zFR) zIb rfl (trivial) (by kernel_rfl) rfl (zsY)
theorem zvg:EOk Tryz.prog zlA:=EOk.te (Φ:=[ziD]) (tys:=zFO) zH8 rfl (⟨zrW,trivial⟩) (by kernel_rfl) rfl (zwa)
theorem ztN:EOk Tryz.prog zjR:=EOk.te (Φ:=[zlA]) (tys:=zFG) zH0 rfl (⟨zvg,trivial⟩) (by kernel_rfl) rfl (zus)
theorem zxS:EOk Tryz.prog znl:=EOk.te (Φ:=[zjR]) (tys:=zFl) zHF rfl (⟨ztN,trivial⟩) (by kernel_rfl) rfl (zyJ)
theorem zvi:EOk Tryz.prog zlC:=EOk.te (Φ:=[znl]) (tys:=zJ0) zK5 rfl (⟨zxS,trivial⟩) (by kernel_rfl) rfl (zwc)
theorem zxR:EOk Tryz.prog znk:=EOk.te (Φ:=[zlC]) (tys:=zJB) zKG rfl (⟨zvi,trivial⟩) (by kernel_rfl) rfl (zyI)
theorem zvh:EOk Tryz.prog zlB:=EOk.te (Φ:=[znk]) (tys:=zJk) zKp rfl (⟨zxR,trivial⟩) (by kernel_rfl) rfl (zwb)
theorem zF8:EOk Tryz.prog zzi:=EOk.pure (Φ:=[]) (tys:=zFI) zH2 rfl (trivial) rfl rfl (zGX)
theorem zBI:EOk Tryz.prog zrF:=EOk.pure (Φ:=[zzi]) (tys:=zFp) zHJ rfl (⟨zF8,trivial⟩) rfl rfl (zCn)
theorem zrh:EOk Tryz.prog zh6:=EOk.pure (Φ:=[]) (tys:=zFq) zHK rfl (trivial) rfl rfl (zyC)
theorem zwM:EOk Tryz.prog zmu:=EOk.pure (Φ:=[zrF,zh6]) (tys:=zJ6) zLb rfl (⟨zBI,⟨zrh,trivial⟩⟩) rfl rfl (zCp)
theorem zoO:EOk Tryz.prog zf6:=EOk.pure (Φ:=[]) (tys:=zJL) zKQ rfl (trivial) rfl rfl (zCq)
theorem zj1:EOk Tryz.prog zc1:=EOk.pure (Φ:=[]) (tys:=zJM) zKR rfl (trivial) rfl rfl (zA5)
theorem zDK:EOk Tryz.prog zuK:=EOk.pure (Φ:=[zc1]) (tys:=zFr) zHL rfl (⟨zj1,trivial⟩) rfl rfl (zER)
theorem zzQ:EOk Tryz.prog zpf:=EOk.pure (Φ:=[zc1]) (tys:=zFs) zHM rfl (⟨zj1,trivial⟩) rfl rfl (zA6)
theorem zzP:EOk Tryz.prog zpe:=EOk.pure (Φ:=[zmu,zh6,zf6,zc1,zuK,zpf]) (tys:=zJ7) zLc rfl (⟨zwM,⟨zrh,⟨zoO,⟨zj1,⟨zDK,⟨zzQ,trivial⟩⟩⟩⟩⟩⟩) rfl rfl (zA4)
theorem zBJ:EOk Tryz.prog zrG:=EOk.pure (Φ:=[]) (tys:=zFt) zHN rfl (trivial) rfl rfl (zCo)
theorem zzR:EOk Tryz.prog zpg:=EOk.pure (Φ:=[zrG]) (tys:=zJ8) zLd rfl (⟨zBJ,trivial⟩) rfl rfl (zA7)
theorem zpB:EOk Tryz.prog zgR:=EOk.pure (Φ:=[zmu,zpe,zpg]) (tys:=zJJ) zKO rfl (⟨zwM,⟨zzP,⟨zzR,trivial⟩⟩⟩) rfl rfl (zv1)
theorem zu8:EOk Tryz.prog zls:=EOk.pure (Φ:=[zf6]) (tys:=zJ3) zK8 rfl (⟨zoO,trivial⟩) rfl rfl (zET)
theorem zu7:EOk Tryz.prog zlr:=EOk.pure (Φ:=[zf6,zc1]) (tys:=zJu) zKz rfl (⟨zoO,⟨zj1,trivial⟩⟩) rfl rfl (zEQ)
theorem zny:EOk Tryz.prog zeZ:=EOk.pure (Φ:=[zlr]) (tys:=zJK) zKP rfl (⟨zu7,trivial⟩) rfl rfl (zyD)
theorem zzS:EOk Tryz.prog zph:=EOk.pure (Φ:=[]) (tys:=zFo) zHI rfl (trivial) rfl rfl (zA8)
theorem zzU:EOk Tryz.prog zpj:=EOk.pure (Φ:=[zeZ,zlr,zph,zls]) (tys:=zJ4) zK9 rfl (⟨zny,⟨zu7,⟨zzS,⟨zu8,trivial⟩⟩⟩⟩) rfl rfl (zBa)
theorem zzT:EOk Tryz.prog zpi:=EOk.pure (Φ:=[zgR,zls,zpj]) (tys:=zJH) zKM rfl (⟨zpB,⟨zu8,⟨zzU,trivial⟩⟩⟩) rfl rfl (zA9)
theorem zDM:EOk Tryz.prog zuM:=EOk.pure (Φ:=[zc1]) (tys:=zJ5) zLa rfl (⟨zj1,trivial⟩) rfl rfl (zEU)
theorem zDL:EOk Tryz.prog zuL:=EOk.pure (Φ:=[zf6,zls,zuM]) (tys:=zJI) zKN rfl (⟨zoO,⟨zu8,⟨zDM,trivial⟩⟩⟩) rfl rfl (zES)
theorem zu6:EOk Tryz.prog zlq:=EOk.pure (Φ:=[zpi,zuL,zgR,zeZ]) (tys:=zJt) zKy rfl (⟨zzT,⟨zDL,⟨zpB,⟨zny,trivial⟩⟩⟩⟩) rfl rfl (zv0)
theorem zxM:EOk Tryz.prog znf:=EOk.pure (Φ:=[zeZ]) (tys:=zJv) zKA rfl (⟨zny,trivial⟩) rfl rfl (zyB)
theorem ztK:EOk Tryz.prog zjO:=EOk.te (Φ:=[zlq,zlr,znf]) (tys:=cy8) ok8 rfl (⟨zu6,⟨zu7,⟨zxM,trivial⟩⟩⟩) (by kernel_rfl) rfl (zuk)
theorem zzM:EOk Tryz.prog zpb:=EOk.pure (Φ:=[]) (tys:=zJN) zKS rfl (trivial) rfl rfl (zGW)
theorem zxJ:EOk Tryz.prog znc:=EOk.pure (Φ:=[zpb]) (tys:=zFv) zHP rfl (⟨zzM,trivial⟩) rfl rfl (zyx)
theorem zgb:EOk Tryz.prog zbv:=EOk.pure (Φ:=[]) (tys:=zFJ) zH3 rfl (trivial) rfl rfl (zge)
theorem zcg:EOk Tryz.prog zax:=EOk.pure (Φ:=[zbv]) (tys:=zFw) zHQ rfl (⟨zgb,trivial⟩) rfl rfl (zfe)
theorem zkD:EOk Tryz.prog zdh:=EOk.pure (Φ:=[znc,zax]) (tys:=zFh) zHB rfl (⟨zxJ,⟨zcg,trivial⟩⟩) rfl rfl (zyw)
theorem zjY:EOk Tryz.prog zcY:=EOk.pure (Φ:=[]) (tys:=zFu) zHO rfl (trivial) rfl rfl (zqh)
theorem zou:EOk Tryz.prog zfP:=EOk.pure (Φ:=[zcY]) (tys:=zGZ) zKi rfl (⟨zjY,trivial⟩) rfl rfl (zoD)
theorem zf7:EOk Tryz.prog zbr:=EOk.pure (Φ:=[zfP,zcY]) (tys:=zKa) zLf rfl (⟨zou,⟨zjY,trivial⟩⟩) rfl rfl (zsM)
theorem zjb:EOk Tryz.prog zcD:=EOk.pure (Φ:=[]) (tys:=zFn) zHH rfl (trivial) rfl rfl (zoy)
theorem zeB:EOk Tryz.prog zaS:=EOk.pure (Φ:=[zdh]) (tys:=zFK) zH4 rfl (⟨zkD,trivial⟩) rfl rfl (zm3)
theorem zlL:EOk Tryz.prog zdR:=EOk.pure (Φ:=[zaS]) (tys:=zBp) zGh rfl (⟨zeB,trivial⟩) rfl rfl (zl0)
theorem zlJ:EOk Tryz.prog zdP:=EOk.pure (Φ:=[zdR,zaS]) (tys:=zG1) zKk rfl (⟨zlL,⟨zeB,trivial⟩⟩) rfl rfl (zlY)
theorem zeC:EOk Tryz.prog zaT:=EOk.pure (Φ:=[zdh,zcD,zdP,zaS]) (tys:=zFL) zH5 rfl (⟨zkD,⟨zjb,⟨zlJ,⟨zeB,trivial⟩⟩⟩⟩) rfl rfl (zm4)
theorem zlM:EOk Tryz.prog zdS:=EOk.pure (Φ:=[zaT]) (tys:=zws) zD8 rfl (⟨zeC,trivial⟩) rfl rfl (zl1)
theorem zlK:EOk Tryz.prog zdQ:=EOk.pure (Φ:=[zdS,zaT]) (tys:=zyM) zE3 rfl (⟨zlM,⟨zeC,trivial⟩⟩) rfl rfl (zlZ)
theorem zos:EOk Tryz.prog zfN:=EOk.pure (Φ:=[zdh,zpb,zdQ,zaT]) (tys:=zFy) zHS rfl (⟨zkD,⟨zzM,⟨zlK,⟨zeC,trivial⟩⟩⟩⟩) rfl rfl (zoz)
theorem zqx:EOk Tryz.prog zhw:=EOk.pure (Φ:=[]) (tys:=zFA) zHU rfl (trivial) rfl rfl (zqN)
theorem zzO:EOk Tryz.prog zpd:=EOk.pure (Φ:=[zax]) (tys:=zFz) zHT rfl (⟨zcg,trivial⟩) rfl rfl (zA3)
theorem zdp:EOk Tryz.prog zaH:=EOk.pure (Φ:=[zbr,zcD]) (tys:=zFx) zHR rfl (⟨zf7,⟨zjb,trivial⟩⟩) rfl rfl (zkV)
theorem zj4:EOk Tryz.prog zc4:=EOk.pure (Φ:=[zaH]) (tys:=zws) zD8 rfl (⟨zdp,trivial⟩) rfl rfl (zkr)
theorem zj2:EOk Tryz.prog zc2:=EOk.pure (Φ:=[zc4,zaH]) (tys:=zyM) zE3 rfl (⟨zj4,⟨zdp,trivial⟩⟩) rfl rfl (zkp)
theorem zg0:EOk Tryz.prog zbF:=EOk.pure (Φ:=[]) (tys:=zKd) zLi rfl (trivial) rfl rfl (zqj)
theorem zjc:EOk Tryz.prog zcE:=EOk.pure (Φ:=[zbF]) (tys:=zws) zD8 rfl (⟨zg0,trivial⟩) rfl rfl (zoE)
theorem zf8:EOk Tryz.prog zbs:=EOk.pure (Φ:=[zcE,zbF]) (tys:=zG0) zKj rfl (⟨zjc,⟨zg0,trivial⟩⟩) rfl rfl (zsN)
theorem znx:EOk Tryz.prog zeY:=EOk.te (Φ:=[zcE,zbF]) (tys:=zG0) zKj rfl (⟨zjc,⟨zg0,trivial⟩⟩) (by kernel_rfl) rfl (znS)
theorem zeA:EOk Tryz.prog zaR:=EOk.pure (Φ:=[]) (tys:=zFg) zHA rfl (trivial) rfl rfl (zqg)
theorem zhj:EOk Tryz.prog zbU:=EOk.pure (Φ:=[zaR]) (tys:=zFM) zH6 rfl (⟨zeA,trivial⟩) rfl rfl (zm1)
theorem zpC:EOk Tryz.prog zgS:=EOk.pure (Φ:=[zbs,zbU]) (tys:=zFB) zHV rfl (⟨zf8,⟨zhj,trivial⟩⟩) rfl rfl (zqi)
theorem zfS:EOk Tryz.prog zbj:=EOk.pure (Φ:=[zaR,zbs,zbU]) (tys:=zFC) zHW rfl (⟨zeA,⟨zf8,⟨zhj,trivial⟩⟩⟩) rfl rfl (zoA)
theorem znC:EOk Tryz.prog ze3:=EOk.pure (Φ:=[zbj]) (tys:=zws) zD8 rfl (⟨zfS,trivial⟩) rfl rfl (znW)
theorem znz:EOk Tryz.prog ze0:=EOk.pure (Φ:=[ze3,zbj]) (tys:=zyM) zE3 rfl (⟨znC,⟨zfS,trivial⟩⟩) rfl rfl (znT)
theorem zdq:EOk Tryz.prog zaI:=EOk.pure (Φ:=[]) (tys:=zFD) zHX rfl (trivial) rfl rfl (zkW)
theorem zj5:EOk Tryz.prog zc5:=EOk.pure (Φ:=[zaI]) (tys:=zws) zD8 rfl (⟨zdq,trivial⟩) rfl rfl (zks)
theorem zj3:EOk Tryz.prog zc3:=EOk.pure (Φ:=[zc5,zaI]) (tys:=zyM) zE3 rfl (⟨zj5,⟨zdq,trivial⟩⟩) rfl rfl (zkq)
theorem zmL:EOk Tryz.prog zex:=EOk.pure (Φ:=[zbr,zfN,zhw,zpd,zc2,zaH,zgS,ze0,zbj,zc3,zaI]) (tys:=zFi) zHC rfl (⟨zf7,⟨zos,⟨zqx,⟨zzO,⟨zj2,⟨zdp,⟨zpC,⟨znz,⟨zfS,⟨zj3,⟨zdq,trivial⟩⟩⟩⟩⟩⟩⟩⟩⟩⟩⟩) rfl rfl (zm2)
theorem zow:EOk Tryz.prog zfR:=EOk.te (Φ:=[zhy]) (tys:=zGY) zKh rfl (⟨zqz,trivial⟩) (by kernel_rfl) rfl (zoG)
theorem zj6:EOk Tryz.prog zc6:=EOk.te (Φ:=[zdT]) (tys:=zGY) zKh rfl (⟨zlN,trivial⟩) (by kernel_rfl) rfl (zkt)
theorem zqv:EOk Tryz.prog zhu:=EOk.pure (Φ:=[zaR,zdH]) (tys:=zFE) zHY rfl (⟨zeA,⟨zlj,trivial⟩⟩) rfl rfl (zqK)
theorem zqw:EOk Tryz.prog zhv:=EOk.pure (Φ:=[zfR,zc6,zhu,zlt]) (tys:=zFj) zHD rfl (⟨zow,⟨zj6,⟨zqv,⟨zu9,trivial⟩⟩⟩⟩) rfl rfl (zqM)
theorem zrM:EOk Tryz.prog zit:=EOk.pure (Φ:=[zdh,zex,zhv]) (tys:=zJX) zK2 rfl (⟨zkD,⟨zmL,⟨zqw,trivial⟩⟩⟩) rfl rfl (zsL)
theorem zrg:EOk Tryz.prog zh5:=EOk.pure (Φ:=[zit]) (tys:=zJy) zKD rfl (⟨zrM,trivial⟩) rfl rfl (zyz)
theorem zfT:EOk Tryz.prog zbk:=EOk.pure (Φ:=[]) (tys:=zJP) zKU rfl (trivial) rfl rfl (zoB)
theorem znD:EOk Tryz.prog ze4:=EOk.pure (Φ:=[zbk]) (tys:=zJ9) zLe rfl (⟨zfT,trivial⟩) rfl rfl (znX)
theorem znA:EOk Tryz.prog ze1:=EOk.pure (Φ:=[ze4,zbk]) (tys:=zJO) zKT rfl (⟨znD,⟨zfT,trivial⟩⟩) rfl rfl (znU)
theorem zpD:EOk Tryz.prog zgT:=EOk.pure (Φ:=[zbr]) (tys:=zJQ) zKV rfl (⟨zf7,trivial⟩) rfl rfl (zA1)
theorem zli:EOk Tryz.prog zdG:=EOk.pure (Φ:=[zbr,zbs]) (tys:=zJY) zK3 rfl (⟨zf7,⟨zf8,trivial⟩⟩) rfl rfl (zqL)
theorem zhk:EOk Tryz.prog zbV:=EOk.pure (Φ:=[zdG]) (tys:=zJU) zKZ rfl (⟨zli,trivial⟩) rfl rfl (zul)
theorem zj0:EOk Tryz.prog zc0:=EOk.pure (Φ:=[]) (tys:=zKb) zLg rfl (trivial) rfl rfl (zuo)
theorem zrS:EOk Tryz.prog ziz:=EOk.pure (Φ:=[zc0]) (tys:=zws) zD8 rfl (⟨zj0,trivial⟩) rfl rfl (zsT)
theorem zrP:EOk Tryz.prog ziw:=EOk.pure (Φ:=[ziz,zc0]) (tys:=zyM) zE3 rfl (⟨zrS,⟨zj0,trivial⟩⟩) rfl rfl (zsQ)
theorem zxL:EOk Tryz.prog zne:=EOk.pure (Φ:=[zbV,ziw,zc0]) (tys:=zJR) zKW rfl (⟨zhk,⟨zrP,⟨zj0,trivial⟩⟩⟩) rfl rfl (zyA)
theorem zpE:EOk Tryz.prog zgU:=EOk.pure (Φ:=[zdG]) (tys:=zJz) zKE rfl (⟨zli,trivial⟩) rfl rfl (zv2)
theorem zlI:EOk Tryz.prog zdO:=EOk.pure (Φ:=[zbV,zaR]) (tys:=zJW) zK1 rfl (⟨zhk,⟨zeA,trivial⟩⟩) rfl rfl (zv3)
theorem zg1:EOk Tryz.prog zbG:=EOk.pure (Φ:=[zdO]) (tys:=zKc) zLh rfl (⟨zlI,trivial⟩) rfl rfl (zqk)
theorem zov:EOk Tryz.prog zfQ:=EOk.pure (Φ:=[zbG]) (tys:=zBp) zGh rfl (⟨zg1,trivial⟩) rfl rfl (zoF)
theorem zot:EOk Tryz.prog zfO:=EOk.pure (Φ:=[zfQ,zbG]) (tys:=zG1) zKk rfl (⟨zov,⟨zg1,trivial⟩⟩) rfl rfl (zoC)
theorem zrN:EOk Tryz.prog ziu:=EOk.pure (Φ:=[zgU,zbV,zdO,zgT,zfO,zbG]) (tys:=zJS) zKX rfl (⟨zpE,⟨zhk,⟨zlI,⟨zpD,⟨zot,⟨zg1,trivial⟩⟩⟩⟩⟩⟩) rfl rfl (zsO)
theorem zqy:EOk Tryz.prog zhx:=EOk.pure (Φ:=[zpb,zh5,ze1,zbk,zgT,zne,ziu]) (tys:=zJw) zKB rfl (⟨zzM,⟨zrg,⟨znA,⟨zfT,⟨zpD,⟨zxL,⟨zrN,trivial⟩⟩⟩⟩⟩⟩⟩) rfl rfl (zqO)
theorem zoi:EOk Tryz.prog zfE:=EOk.pure (Φ:=[]) (tys:=zJT) zKY rfl (trivial) rfl rfl (zum)
theorem zrQ:EOk Tryz.prog zix:=EOk.pure (Φ:=[zfE]) (tys:=zGZ) zKi rfl (⟨zoi,trivial⟩) rfl rfl (zsR)
theorem zjZ:EOk Tryz.prog zcZ:=EOk.pure (Φ:=[]) (tys:=zJV) zK0 rfl (trivial) rfl rfl (zun)
theorem zrR:EOk Tryz.prog ziy:=EOk.pure (Φ:=[zcZ]) (tys:=zws) zD8 rfl (⟨zjZ,trivial⟩) rfl rfl (zsS)
theorem zrO:EOk Tryz.prog ziv:=EOk.pure (Φ:=[ziy,zcZ]) (tys:=zyM) zE3 rfl (⟨zrR,⟨zjZ,trivial⟩⟩) rfl rfl (zsP)
theorem zxK:EOk Tryz.prog znd:=EOk.pure (Φ:=[zix,zfE,zgT,zbs,zeY,zbV,ziv,zcZ,zdO,zbt]) (tys:=zJx) zKC rfl (⟨zrQ,⟨zoi,⟨zpD,⟨zf8,⟨znx,⟨zhk,⟨zrO,⟨zjZ,⟨zlI,⟨zf9,trivial⟩⟩⟩⟩⟩⟩⟩⟩⟩⟩) rfl rfl (zyy)
theorem zrL:EOk Tryz.prog zis:=EOk.pure (Φ:=[zhx,znd,zh5,zgU]) (tys:=cy9) ok9 rfl (⟨zqy,⟨zxK,⟨zrg,⟨zpE,trivial⟩⟩⟩⟩) rfl rfl (zsK)
theorem zzN:EOk Tryz.prog zpc:=EOk.pure (Φ:=[]) (tys:=zJq) zKv rfl (trivial) rfl rfl (zA2)
theorem zja:EOk Tryz.prog zcC:=EOk.pure (Φ:=[]) (tys:=zJG) zKL rfl (trivial) rfl rfl (zox)
theorem znB:EOk Tryz.prog ze2:=EOk.pure (Φ:=[zcC]) (tys:=zJF) zKK rfl (⟨zja,trivial⟩) rfl rfl (znV)
theorem zqu:EOk Tryz.prog zht:=EOk.pure (Φ:=[ze2,zcC,zcK]) (tys:=zJr) zKw rfl (⟨znB,⟨zja,⟨zji,trivial⟩⟩⟩) rfl rfl (zqJ)
theorem zga:EOk Tryz.prog zbu:=EOk.pure (Φ:=[]) (tys:=zJs) zKx rfl (trivial) rfl rfl (zgd)
theorem zqt:EOk Tryz.prog zhs:=EOk.te (Φ:=[zis,zpc,zht,zbu,zdH]) (tys:=cy7) ok7 rfl (⟨zrL,⟨zzN,⟨zqu,⟨zga,⟨zlj,trivial⟩⟩⟩⟩⟩) (by kernel_rfl) rfl (zqI)
theorem zmM:EOk Tryz.prog zey:=EOk.pure (Φ:=[]) (tys:=zJl) zKq rfl (trivial) rfl rfl (zsU)
theorem zva:EOk Tryz.prog zlu:=EOk.pure (Φ:=[zey]) (tys:=zFP) zH9 rfl (⟨zmM,trivial⟩) rfl rfl (zv4)
theorem ztL:EOk Tryz.prog zjP:=EOk.pure (Φ:=[zlu]) (tys:=zFH) zH1 rfl (⟨zva,trivial⟩) rfl rfl (zup)
theorem zxO:EOk Tryz.prog znh:=EOk.pure (Φ:=[zjP]) (tys:=zFm) zHG rfl (⟨ztL,trivial⟩) rfl rfl (zyF)
theorem zvc:EOk Tryz.prog zlw:=EOk.pure (Φ:=[znh]) (tys:=zJ1) zK6 rfl (⟨zxO,trivial⟩) rfl rfl (zv6)
theorem zxN:EOk Tryz.prog zng:=EOk.pure (Φ:=[zlw]) (tys:=zJC) zKH rfl (⟨zvc,trivial⟩) rfl rfl (zyE)
theorem zvb:EOk Tryz.prog zlv:=EOk.pure (Φ:=[zng]) (tys:=zJm) zKr rfl (⟨zxN,trivial⟩) rfl rfl (zv5)
theorem zfI:EOk Tryz.prog zbb:=EOk.pure (Φ:=[]) (tys:=zJD) zKI rfl (trivial) rfl rfl (zuq)
theorem zj8:EOk Tryz.prog zc7:=EOk.te (Φ:=[zbb]) (tys:=zJo) zKt rfl (⟨zfI,trivial⟩) (by kernel_rfl) rfl (zqm)
theorem zqA:EOk Tryz.prog zhz:=EOk.te (Φ:=[zbb,zc7]) (tys:=zJ2) zK7 rfl (⟨zfI,⟨zj8,trivial⟩⟩) (by kernel_rfl) rfl (zqP)
theorem zrU:EOk Tryz.prog ziB:=EOk.te (Φ:=[zbb,zhz]) (tys:=zJE) zKJ rfl (⟨zfI,⟨zqA,trivial⟩⟩) (by kernel_rfl) rfl (zsW)
theorem zrT:EOk Tryz.prog ziA:=EOk.te (Φ:=[zbb,ziB]) (tys:=zJn) zKs rfl (⟨zfI,⟨zrU,trivial⟩⟩) (by kernel_rfl) rfl (zsV)
theorem zpF:EOk Tryz.prog zgV:=EOk.pure (Φ:=[zbb]) (tys:=zJp) zKu rfl (⟨zfI,trivial⟩) rfl rfl (zql)
theorem zj7:EOk Tryz.prog zfF:=EOk.pure (Φ:=[zly,zlB,zjO,zhs,zey,zlv,ziA,zc7,zgV]) (tys:=cy4) ok4 rfl (⟨zve,⟨zvh,⟨ztK,⟨zqt,⟨zmM,⟨zvb,⟨zrT,⟨zj8,⟨zpF,trivial⟩⟩⟩⟩⟩⟩⟩⟩⟩) rfl rfl (zku)
end Go.Fw
namespace Go.Fw
open Go
set_option linter.unusedSimpArgs false
set_option linter.unusedVariables false
abbrev KK:Nat:=1048576
def KS(N:Nat)(l:List (List UInt8)):Prop:=l.length<=N/\∀s∈l,s.length<=N
def KF(N:Nat)(f:Field):Prop:=f.name.length<=N/\f.of.length<=N/\KS N f.needs
def KT(N:Nat)(t:Typ):Prop:=t.name.length<=N/\t.key.length<=N/\t.fields.length<=N/\∀f∈t.fields,KF N f
def KP(N:Nat)(p:Part):Prop:=p.name.length<=N/\p.types.length<=N/\∀t∈p.types,KT N t
def KL(N:Nat)(ps:List Part):Prop:=ps.length<=N/\∀p∈ps,KP N p
def Sz(l:Int)(P:Prop)(m:Nat)(r:Int):Prop:=-1<=r/\r<=l/\(0<=r->P/\r+m<=l)
def mS(xs:List (List UInt8)):Nat:=xs.length
def mFs(xs:List Field):Nat:=xs.length+(xs.map fun f=>mS f.needs).sum
def mTs(xs:List Typ):Nat:=xs.length+(xs.map fun t=>mFs t.fields).sum
def mPs(xs:List Part):Nat:=xs.length+(xs.map fun p=>mTs p.types).sum
theorem zCi{α:Type}{xs:List α}{w:α->Nat}{i:Nat}(h:i<xs.length):((xs.take (i+1)).map w).sum=((xs.take i).map w).sum+w xs[i]:=by
 rw[List.take_succ_eq_append_getElem h,List.map_append,List.sum_append]
 simp
theorem zvL{α:Type}{xs:List α}{g:α×Int->Option Int}{B:α->Prop}{w:α->Nat}(hl:xs.length<=BIG)(hg:∀x∈xs,∀l,0<=l->l<=(KK:Int)->wp (g (x,l)) (Sz l (B x) (w x))){l:Int}(h0:0<=l)(h1:l<=(KK:Int)):
  wp (gd (zas (l-(↑(List.length xs):Int)))
  (zab (decide (l-(↑(List.length xs):Int)<0)) (some (-1))
   (zaa
    (zam
     (fun(s:Int×Int) =>
      zab (decide (s.snd<(↑(List.length xs):Int)))
       (gd (decide (0<=s.snd))
        (zaa xs[Int.toNat s.snd]? fun(x:α) =>
         zaa (g (x,s.fst)) fun(x:Int)=>zab (decide (x<0)) (some (Sum.inr (Sum.inr (-1)))) (gd (zas (s.snd+1)) (some (Sum.inl (x,s.snd+1))))))
       (some (Sum.inr (Sum.inl (s.fst,s.snd)))))
     (l-(↑(List.length xs):Int),0))
    fun(x:Int×Int⊕Int)=>zat x (fun(d:Int×Int)=>some d.fst) fun(r:Int)=>some r))) (Sz l (xs.length<=KK/\∀x∈xs,B x) (xs.length+(xs.map w).sum)):=by
 have hB:BIG=9223372036854775807:=rfl
 have hk:(KK:Int)=1048576:=rfl
 simp only[ywa,ywb,ywc,ywd,ywe,yhw,yhx,yhv,yhy,yhz,yhb,yhc,yhd,yhu,yhe,yhf,yhg,yhh,yhi,yhj,yhk,yhl,yhm,yhn,yho,yhp]
 refine⟨by omega,fun _=>⟨by omega,by omega,fun h=>by omega⟩,fun hn=>?_⟩
 have hlen:xs.length<=KK:=by show xs.length<=1048576;omega
 refine zqf (fun s:Int×Int=>0<=s.1/\s.1<=l/\0<=s.2/\s.2<=xs.length/\(s.1+xs.length+((xs.take s.2.toNat).map w).sum<=l)/\∀(j:Nat)(hj:j<xs.length),(j:Int)<s.2->B xs[j]) (fun s=>xs.length-s.2.toNat) ⟨by show(0:Int)<=l-_;omega,by show l-_<=l;omega,by show(0:Int)<=0;omega,by show(0:Int)<=_;omega,by show l-_+_+_<=l;simp,fun j _ hj=>by have:(j:Int)<0:=hj;omega⟩ ?_
 rintro⟨a,i⟩ ⟨i1,i2,i3,i4,i6,i5⟩
 dsimp only at i1 i2 i3 i4 i5 i6|-
 simp only[ywa,ywb,ywc,ywd,ywe,yhw,yhx,yhv,yhy,yhz,yhb,yhc,yhd,yhu,yhe,yhf,yhg,yhh,yhi,yhj,yhk,yhl,yhm,yhn,yho,yhp]
 refine⟨fun hlt=>⟨i3,by omega,?_⟩,fun hge=>⟨by omega,i2,fun _=>⟨⟨hlen,fun x hx=>?_⟩,?_⟩⟩⟩
 ·refine(hg _ (ygh _) a i1 (by omega)).mono fun r hr=>?_
  obtain⟨r1,r2,r3⟩:=hr
  refine⟨fun h=>⟨by omega,by omega,fun h=>by omega⟩,fun h=>⟨⟨by omega,by omega⟩,⟨by omega,by omega,by omega,by omega,?_,fun j hj hji=>?_⟩,by omega⟩⟩
  ·have h4:=(r3 (by omega)).2
   have e:(i+1).toNat=i.toNat+1:=by omega
   rw[e,zCi (by omega)]
   omega
  ·by_cases hj2:(j:Int)<i
   ·exact i5 j hj hj2
   ·have:j=i.toNat:=by omega
    subst this
    exact(r3 (by omega)).1
 ·obtain⟨j,hj,rfl⟩:=List.getElem_of_mem hx
  exact i5 j hj (by omega)
 ·have e:i.toNat=xs.length:=by omega
  rw[e,List.take_length]at i6
  omega
theorem zGN{xs:List (List UInt8)}{l:Int}(hm:KS BIG xs)(h0:0<=l)(h1:l<=(KK:Int)):wp (zev (xs,l)) (Sz l (KS KK xs) (mS xs)):=by
 have hB:BIG=9223372036854775807:=rfl
 have hk:(KK:Int)=1048576:=rfl
 have hl:=hm.1
 rw[zi6];unfold zei;dsimp only
 simp only[ywa,ywb,ywc,ywd,ywe,yhw,yhx,yhv,yhy,yhz,yhb,yhc,yhd,yhu,yhe,yhf,yhg,yhh,yhi,yhj,yhk,yhl,yhm,yhn,yho,yhp]
 refine⟨by omega,fun _=>⟨by omega,by omega,fun h=>by omega⟩,fun hn=>?_⟩
 have hlen:xs.length<=KK:=by show xs.length<=1048576;omega
 refine zqf (fun s:Int×Int=>0<=s.1/\s.1+xs.length<=l/\0<=s.2/\s.2<=xs.length/\∀(j:Nat)(hj:j<xs.length),(j:Int)<s.2->xs[j].length<=KK) (fun s=>xs.length-s.2.toNat) ⟨by show(0:Int)<=l-_;omega,by show l-_+_<=l;omega,by show(0:Int)<=0;omega,by show(0:Int)<=_;omega,fun j _ hj=>by have:(j:Int)<0:=hj;omega⟩ ?_
 rintro⟨a,i⟩ ⟨i1,i2,i3,i4,i5⟩
 dsimp only at i1 i2 i3 i4 i5|-
 simp only[ywa,ywb,ywc,ywd,ywe,yhw,yhx,yhv,yhy,yhz,yhb,yhc,yhd,yhu,yhe,yhf,yhg,yhh,yhi,yhj,yhk,yhl,yhm,yhn,yho,yhp]
 refine⟨fun hlt=>⟨i3,by omega,?_⟩,fun hge=>⟨by omega,by omega,fun _=>⟨⟨hlen,fun x hx=>?_⟩,i2⟩⟩⟩
 ·have hb:=hm.2 _ (ygh (h:=(by omega:i.toNat<xs.length)))
  refine⟨by omega,fun h=>⟨by omega,by omega,fun h=>by omega⟩,fun h=>⟨by omega,⟨by omega,by omega,by omega,by omega,fun j hj hji=>?_⟩,by omega⟩⟩
  by_cases hj2:(j:Int)<i
  ·exact i5 j hj hj2
  ·have:j=i.toNat:=by omega
   subst this
   show _<=1048576
   omega
 ·obtain⟨j,hj,rfl⟩:=List.getElem_of_mem hx
  exact i5 j hj (by omega)
theorem Sz.end{l:Int}{x:Int}{P Q:Prop}{m m':Nat}(h:Sz l P m x){l':Int}(hl:l<=l')(hm:m'=m)(hq:P->Q):wp (zab (decide (x<0)) (some (-1)) (some x)) (Sz l' Q m'):=by
 obtain⟨h1,h2,h3⟩:=h
 simp only[ywa,ywb,ywc,ywd,ywe,yhw,yhx,yhv,yhy,yhz,yhb,yhc,yhd,yhu,yhe,yhf,yhg,yhh,yhi,yhj,yhk,yhl,yhm,yhn,yho,yhp]
 exact⟨fun _=>⟨by omega,by omega,fun h=>by omega⟩,fun h=>⟨by omega,by omega,fun _=>⟨hq (h3 (by omega)).1,by have:=(h3 (by omega)).2;omega⟩⟩⟩
theorem zGL{x:Field}{l:Int}(hm:KF BIG x)(h0:0<=l)(h1:l<=(KK:Int)):wp (zeV (x,l)) (Sz l (KF KK x) (mS x.needs)):=by
 have hB:BIG=9223372036854775807:=rfl
 have hk:(KK:Int)=1048576:=rfl
 obtain⟨a1,a2,a3⟩:=hm
 rw[zk6];unfold zgw;dsimp only
 rw[ywa,ywc,ywd,ywa,ywc,ywd,ywb]
 simp only[yhc,yhd,yhu]
 refine⟨by omega,fun _=>⟨by omega,by omega,fun h=>by omega⟩,fun h2=>⟨by omega,fun _=>⟨by omega,by omega,fun h=>by omega⟩,fun h3=>(zGN a3 (by omega) (by omega)).mono fun r hr=>?_⟩⟩
 exact hr.end (by omega) rfl fun hq=>⟨by show _<=1048576;omega,by show _<=1048576;omega,hq⟩
theorem zEF{xs:List Field}{l:Int}(hm:xs.length<=BIG/\∀x∈xs,KF BIG x)(h0:0<=l)(h1:l<=(KK:Int)):wp (zfC (xs,l)) (Sz l (xs.length<=KK/\∀x∈xs,KF KK x) (mFs xs)):=by
 rw[zjL];unfold zfs;dsimp only
 exact zvL (g:=zeV) hm.1 (fun x hx l h0 h1=>zGL (hm.2 x hx) h0 h1) h0 h1
theorem zGO{x:Typ}{l:Int}(hm:KT BIG x)(h0:0<=l)(h1:l<=(KK:Int)):wp (zgl (x,l)) (Sz l (KT KK x) (mFs x.fields)):=by
 have hB:BIG=9223372036854775807:=rfl
 have hk:(KK:Int)=1048576:=rfl
 obtain⟨a1,a2,a3⟩:=hm
 rw[zml];unfold zhN;dsimp only
 rw[ywa,ywc,ywd,ywa,ywc,ywd,ywb]
 simp only[yhc,yhd,yhu]
 refine⟨by omega,fun _=>⟨by omega,by omega,fun h=>by omega⟩,fun h2=>⟨by omega,fun _=>⟨by omega,by omega,fun h=>by omega⟩,fun h3=>(zEF a3 (by omega) (by omega)).mono fun r hr=>?_⟩⟩
 exact hr.end (by omega) rfl fun hq=>⟨by show _<=1048576;omega,by show _<=1048576;omega,hq⟩
theorem zEG{xs:List Typ}{l:Int}(hm:xs.length<=BIG/\∀x∈xs,KT BIG x)(h0:0<=l)(h1:l<=(KK:Int)):wp (zgO (xs,l)) (Sz l (xs.length<=KK/\∀x∈xs,KT KK x) (mTs xs)):=by
 rw[zk8];unfold zgy;dsimp only
 exact zvL (g:=zgl) hm.1 (fun x hx l h0 h1=>zGO (hm.2 x hx) h0 h1) h0 h1
theorem zGM{x:Part}{l:Int}(hm:KP BIG x)(h0:0<=l)(h1:l<=(KK:Int)):wp (zgk (x,l)) (Sz l (KP KK x) (mTs x.types)):=by
 have hB:BIG=9223372036854775807:=rfl
 have hk:(KK:Int)=1048576:=rfl
 obtain⟨a1,a2⟩:=hm
 rw[zmk];unfold zhM;dsimp only
 rw[ywa,ywc,ywd,ywb]
 simp only[yhc,yhd,yhu]
 refine⟨by omega,fun _=>⟨by omega,by omega,fun h=>by omega⟩,fun h2=>(zEG a2 (by omega) (by omega)).mono fun r hr=>?_⟩
 exact hr.end (by omega) rfl fun hq=>⟨by show _<=1048576;omega,hq⟩
theorem zAS{xs:List Part}{l:Int}(hm:KL BIG xs)(h0:0<=l)(h1:l<=(KK:Int)):wp (zeW (xs,l)) (Sz l (KL KK xs) (mPs xs)):=by
 rw[zk7];unfold zgx;dsimp only
 exact zvL (g:=zgk) hm.1 (fun x hx l h0 h1=>zGM (hm.2 x hx) h0 h1) h0 h1
theorem zsu{α β:Type}{xs:List α}{z:α}{g:α->Option β}{mk:β->α}(hl:xs.length<=KK)(hg:∀x∈xs,∃y,g x=some y/\mk y=x):
  gd (decide (0<=(↑(List.length xs):Int))&&decide ((↑(List.length xs):Int)<=(↑LIM:Int)))
  (zaa
   (zam
    (fun(s:Int×List α) =>
     zab (decide (s.fst<(↑(List.length xs):Int)))
      (gd (decide (0<=s.fst))
       (zaa xs[Int.toNat s.fst]? fun(x:α) =>
        zaa (g x) fun(x:β) =>
         gd (decide (0<=s.fst)&&decide (s.fst<(↑(List.length s.snd):Int)))
          (zaa s.snd[Int.toNat s.fst]? fun(x_1:α)=>gd (zas (s.fst+1)) (some (Sum.inl (s.fst+1,List.set s.snd (Int.toNat s.fst) (mk x)))))))
      (some (Sum.inr (s.fst,s.snd))))
    (0,List.replicate (Int.toNat (↑(List.length xs):Int)) z))
   fun(x:Int×List α)=>some x.snd)=some xs:=by
 have hk:KK=1048576:=rfl
 have hL:LIM=1099511627776:=rfl
 rw[<-zEO]
 simp only[ywa,ywb,ywc,ywd,ywe,yhw,yhx,yhv,yhy,yhz,yhb,yhc,yhd,yhu,yhe,yhf,yhg,yhh,yhi,yhj,yhk,yhl,yhm,yhn,yho,yhp]
 refine⟨by omega,?_⟩
 refine zqf (fun s:Int×List α=>0<=s.1/\s.1<=xs.length/\s.2.length=xs.length/\∀(j:Nat)(hj:j<xs.length)(hj2:j<s.2.length),(j:Int)<s.1->s.2[j]=xs[j]) (fun s=>xs.length-s.1.toNat) ⟨by show(0:Int)<=0;omega,by show(0:Int)<=_;omega,by simp,fun j _ _ hj=>by have:(j:Int)<0:=hj;omega⟩ ?_
 rintro⟨i,ys⟩ ⟨i1,i2,i3,i4⟩
 dsimp only at i1 i2 i3 i4|-
 simp only[ywa,ywb,ywc,ywd,ywe,yhw,yhx,yhv,yhy,yhz,yhb,yhc,yhd,yhu,yhe,yhf,yhg,yhh,yhi,yhj,yhk,yhl,yhm,yhn,yho,yhp]
 refine⟨fun hlt=>⟨i1,by omega,?_⟩,fun hge=>List.ext_getElem i3 fun j hj hj2=>i4 j hj2 hj (by omega)⟩
 obtain⟨y,hy,hm⟩:=hg _ (ygh (h:=(by omega:i.toNat<xs.length)))
 refine zGV hy ⟨by omega,by omega,by omega,⟨by omega,by omega,by simpa using i3,fun j hj hj2 hji=>?_⟩,by omega⟩
 by_cases hj3:i.toNat=j
 ·subst hj3
  simp[hm]
 ·rw[List.getElem_set_ne hj3]
  exact i4 j hj (by rw[i3];exact hj) (by omega)
theorem zGR{xs:List (List UInt8)}(h:KS KK xs):zew xs=some xs:=by
 rw[zi7];unfold zej
 exact zsu (g:=fun x=>some x) (mk:=fun x=>x) h.1 (fun _ _=>⟨_,rfl,rfl⟩)
theorem zGP{x:Field}(h:KF KK x):zeX x=some ((x.name,x.of,x.list,x.must,x.far,x.hidden,x.shared),x.needs):=by
 rw[zk9];unfold zgz
 rw[zGR h.2.2];rfl
theorem zEJ{xs:List Field}(h:xs.length<=KK/\∀x∈xs,KF KK x):zfD xs=some xs:=by
 rw[zjM];unfold zft
 exact zsu (g:=zeX) (mk:=fun x=>⟨x.1.1,x.1.2.1,x.1.2.2.1,x.1.2.2.2.1,x.1.2.2.2.2.1,x.1.2.2.2.2.2.1,x.1.2.2.2.2.2.2,x.2⟩) h.1 (fun x hx=>⟨_,zGP (h.2 x hx),rfl⟩)
theorem zGS{x:Typ}(h:KT KK x):zgn x=some ((x.name,x.key),x.fields):=by
 rw[zmn];unfold zhP
 rw[zEJ h.2.2];rfl
theorem zEK{xs:List Typ}(h:xs.length<=KK/\∀x∈xs,KT KK x):zgP xs=some xs:=by
 rw[zlb];unfold zgB
 exact zsu (g:=zgn) (mk:=fun x=>⟨x.1.1,x.1.2,x.2⟩) h.1 (fun x hx=>⟨_,zGS (h.2 x hx),rfl⟩)
theorem zGQ{x:Part}(h:KP KK x):zgm x=some (x.name,x.types):=by
 rw[zmm];unfold zhO
 rw[zEK h.2];rfl
theorem zAU{xs:List Part}(h:KL KK xs):zbi xs=some xs:=by
 rw[zla];unfold zgA
 exact zsu (g:=zgm) (mk:=fun x=>⟨x.1,x.2⟩) h.1 (fun x hx=>⟨_,zGQ (h.2 x hx),rfl⟩)
theorem zpt{α:Type}{xs:List α}{g:α×α->Option Bool}(hl:xs.length<=KK)(hg:∀x∈xs,g (x,x)=some true):
  zab ((↑(List.length xs):Int) !=(↑(List.length xs):Int)) (some false)
  (zaa
   (zam
    (fun(s:Int) =>
     zab (decide (s<(↑(List.length xs):Int)))
      (gd (decide (0<=s))
       (zaa xs[Int.toNat s]? fun(x:α) =>
        gd (decide (0<=s))
         (zaa xs[Int.toNat s]? fun(x_1:α) =>
          zaa (g (x,x_1)) fun(x:Bool)=>zab (!x) (some (Sum.inr (Sum.inr false))) (gd (zas (s+1)) (some (Sum.inl (s+1)))))))
      (some (Sum.inr (Sum.inl s))))
    0)
   fun(x:Int⊕Bool)=>zat x (fun(d:Int)=>some true) fun(r:Bool)=>some r)=some true:=by
 have hk:KK=1048576:=rfl
 rw[<-zEO,bne_self_eq_false,zae,ywb]
 refine zqf (fun s:Int=>0<=s) (fun s=>xs.length-s.toNat) (by omega) fun i hi=>?_
 simp only[ywa,ywb,ywc,ywd,ywe,yhw,yhx,yhv,yhy,yhz,yhb,yhc,yhd,yhu,yhe,yhf,yhg,yhh,yhi,yhj,yhk,yhl,yhm,yhn,yho,yhp]
 exact⟨fun hlt=>⟨hi,by omega,hi,by omega,zGV (hg _ (ygh _)) (by simp;omega)⟩,fun _=>trivial⟩
theorem zFU{xs:List (List UInt8)}(h:KS KK xs):zaY (xs,xs)=some true:=by
 rw[zfL];unfold zdd;dsimp only
 have:=zpt (xs:=xs) (g:=fun x=>some (x.1==x.2)) h.1 (fun _ _=>by simp)
 exact this
theorem zFS{x:Field}(h:KF KK x):zeT (x,x)=some true:=by
 rw[zk3];unfold zgt;dsimp only
 rw[zFU h.2.2];simp only[bne_self_eq_false,zae,zac];rfl
theorem zDp{xs:List Field}(h:xs.length<=KK/\∀x∈xs,KF KK x):zfB (xs,xs)=some true:=by
 rw[zjJ];unfold zfq;dsimp only
 exact zpt (g:=zeT) h.1 (fun x hx=>zFS (h.2 x hx))
theorem zFV{x:Typ}(h:KT KK x):zgj (x,x)=some true:=by
 rw[zmj];unfold zhL;dsimp only
 rw[zDp h.2.2];simp only[bne_self_eq_false,zae,zac];rfl
theorem zDr{xs:List Typ}(h:xs.length<=KK/\∀x∈xs,KT KK x):zgN (xs,xs)=some true:=by
 rw[zk5];unfold zgv;dsimp only
 exact zpt (g:=zgj) h.1 (fun x hx=>zFV (h.2 x hx))
theorem zFT{x:Part}(h:KP KK x):zgi (x,x)=some true:=by
 rw[zmi];unfold zhK;dsimp only
 rw[zDr h.2];simp only[bne_self_eq_false,zae,zac];rfl
theorem zzr{xs:List Part}(h:KL KK xs):zeU (xs,xs)=some true:=by
 rw[zk4];unfold zgu;dsimp only
 exact zpt (g:=zgi) h.1 (fun x hx=>zFT (h.2 x hx))
end Go.Fw
namespace Go.Fw
open Go
set_option linter.unusedSimpArgs false
set_option linter.unusedVariables false
theorem zAQ(n a b:Int):zs5 (n,a,b)=some (decide (a<=n)&&decide (n<=b)):=by
 rw[zs6];unfold zs3
 simp only[zBv,zac,ge_iff_le]
 cases decide (a<=n)<;>rfl
theorem zmI(n a b:Int):zkZ (n,a,b)=some (decide (a<=n)&&decide (n<=b)):=by
 rw[zs4];unfold zs2
 simp only[zBv,zac,ge_iff_le]
 cases decide (a<=n)<;>rfl
def zCx(i:Nat)(c:UInt8):Bool:=(decide (97<=zaF c)&&decide (zaF c<=122)) ||zaF c==95 ||(decide (0<i)&&decide (48<=zaF c)&&decide (zaF c<=57))
def zuj(s:List UInt8):Bool:=decide (1<=s.length)&&decide (s.length<=9)&&zqW zCx 0 s
theorem zuE(i:Nat):decide ((i:Int)>0)=decide (0<i):=by simp
theorem zDd(i:Nat):((i:Int)==0)= !decide (0<i):=by
 by_cases h:i=0
 ·subst h;rfl
 ·have h1:((i:Int)==0)=false:=by simpa using h
  rw[h1];simp;omega
theorem zFc(n:Nat):decide ((1:Int)<=(n:Int))=decide (1<=n):=by simp;omega
theorem zFd(n:Nat):decide ((n:Int)<=9)=decide (n<=9):=by simp;omega
theorem zvH{s:List UInt8}(hl:s.length<=4611686018427387904):zme s=some (zuj s):=by
 rw[zoZ];unfold zl4
 rw[zAQ,zac,zFc,zFd]
 unfold zuj
 cases hb:(decide (1<=s.length)&&decide (s.length<=9))with
 | false=>rfl
 | true =>
  simp only[Bool.not_true,zae,Bool.true_and]
  rw[zdK (s0:=(0:Int)) s (fun i=>(i:Int)) (s.length:Int) (fun i c=>bif zCx i c then none else some false) rfl ?_ ?_]
  ·rw[zdo]
   cases zqW zCx 0 s<;>rfl
  ·intro i h
   have h3:=zar h hl
   simp only[zaO h,zaE,zal h,zaf,zag,zac,zBv,zuE,ge_iff_le,h3]
   generalize s[i]=c
   unfold zCx
   cases decide (97<=zaF c)<;>cases decide (zaF c<=122)<;>cases(zaF c==95)<;>cases decide (0<i)<;>cases decide (48<=zaF c)<;>cases decide (zaF c<=57)<;>rfl
  ·simp only[zap,zae]
theorem zA0{n:Int}(h1:-9223372036854775808<=n)(h2:n<=9223372036854775807):IntKind.wrap .i64 n=n:=by
 simp only[IntKind.wrap,IntKind.bits,IntKind.signed]
 simp
 omega
theorem zAZ(c:UInt8):IntKind.wrap .i64 (zaF c)=zaF c:=by
 have:c.toNat<256:=c.toNat_lt
 exact zA0 (by unfold zaF;omega) (by unfold zaF;omega)
theorem zu4{s:List UInt8}(hl:s.length<=4611686018427387904):zhW s=some (zuj s):=by
 rw[zl9];unfold zhC
 rw[zdK (s0:=(0:Int)) s (fun i=>(i:Int)) (s.length:Int) (fun i c=>bif zCx i c then none else some false) rfl ?_ ?_]
 ·rw[zdo]
  simp only[zmI,zac,zat,zFc,zFd]
  unfold zuj
  cases zqW zCx 0 s<;>simp[zac]
 ·intro i h
  have h3:=zar h hl
  have h4:(List.map zaF s)[Int.toNat (i:Int)]? =some (zaF s[i]):=by simp[h]
  simp only[List.length_map,zaO h,zaE,h4,zaf,zag,zac,zBv,zDd,ge_iff_le,h3,zmI,zAZ]
  generalize s[i]=c
  unfold zCx
  cases decide (97<=zaF c)<;>cases decide (zaF c<=122)<;>cases hc:(zaF c==95)<;>cases decide (0<i)<;>cases decide (48<=zaF c)<;>cases decide (zaF c<=57)<;>simp only[bne,hc]<;>rfl
 ·simp only[List.length_map,zap,zae]
def zvB(s:List UInt8):Bool:=s==[105,110,116] ||s==[116,101,120,116] ||s==[98,111,111,108]
theorem zvC(s:List UInt8):zeQ s=some (zvB s):=by
 rw[zmg];unfold zhI
 unfold zvB
 cases(s==[105,110,116])<;>cases(s==[116,101,120,116])<;>rfl
theorem ztZ(f:Field):zbL f=some (zvB f.of):=by
 rw[zgD];unfold zco
 unfold zvB
 cases(f.of==[105,110,116])<;>cases(f.of==[116,101,120,116])<;>rfl
theorem zBG{xs:List (List UInt8)}{s:List UInt8}(hl:xs.length<=4611686018427387904):zaD (xs,s)=some (ixM (fun x=>s==x) xs):=by
 rw[zcc];unfold zaB;dsimp only
 exact ixf (g:=fun x=>some (s==x)) (fun x=>s==x) hl (fun _ _=>rfl)
theorem zpa{xs:List (List UInt8)}{s:List UInt8}(hl:xs.length<=4611686018427387904):zan (xs,s)=some (xs.any fun x=>s==x):=by
 rw[zbI];unfold zaw;dsimp only
 rw[zBG hl,zac,zlh]
def kwL:List (List UInt8):=[[105,110,116],[116,101,120,116],[98,111,111,108],[112,97,114,116],[116,121,112,101],[107,101,121],[102,97,114],[104,105,100,100,101,110],[115,104,97,114,101,100],[110,101,101,100,115]]
def zzG:List UInt8->Bool
 | []=>false
 | c:: _=>zaF c !=95
def nameM(s:List UInt8):Bool:=zuj s&&(decide (s.length<=8)&&(zzG s&&!kwL.any fun x=>s==x))
theorem zC9(n:Nat):decide ((n:Int)<=8)=decide (n<=8):=by simp;omega
theorem zfd{s:List UInt8}(hl:s.length<=4611686018427387904):zfg s=some (nameM s):=by
 rw[zo2];unfold zl6
 rw[zvH hl,zac,zC9]
 unfold nameM
 cases s with
 | nil=>rfl
 | cons c s =>
  cases zuj (c:: s)with
  | false=>rfl
  | true =>
   simp only[zaf,Int.toNat_zero,List.getElem?_cons_zero,zac,zvC,zzG,zvB]
   simp only[kwL,List.any_cons,List.any_nil,bne]
   cases decide ((c:: s).length<=8)<;>cases(zaF c==95)<;>cases(c:: s==[105,110,116])<;>cases(c:: s==[116,101,120,116])<;>cases(c:: s==[98,111,111,108])<;>try rfl
   cases(c:: s==[112,97,114,116])<;>cases(c:: s==[116,121,112,101])<;>cases(c:: s==[107,101,121])<;>cases(c:: s==[102,97,114])<;>cases(c:: s==[104,105,100,100,101,110])<;>cases(c:: s==[115,104,97,114,101,100])<;>cases(c:: s==[110,101,101,100,115])<;>rfl
theorem ze5{s:List UInt8}(hl:s.length<=4611686018427387904):zcI s=some (nameM s):=by
 rw[zl8];unfold zhB
 rw[zu4 hl,zac,zC9]
 unfold nameM
 cases s with
 | nil=>rfl
 | cons c s =>
  cases zuj (c:: s)with
  | false=>rfl
  | true =>
   have hc:=zpa (xs:=kwL) (s:=c:: s) (by simp[kwL])
   simp only[kwL]at hc
   simp only[zaf,Int.toNat_zero,List.getElem?_cons_zero,zac,zzG,kwL,hc]
   cases decide ((c:: s).length<=8)<;>cases(zaF c !=95)<;>rfl
theorem zeE{s:List UInt8}(h:nameM s=true):s.length<=8:=by
 unfold nameM at h
 simp only[yhb,yhc]at h
 exact h.2.1
def tyM(p:Part)(n:List UInt8):Option Typ:=p.types.find? fun t=>t.name==n
def fdM(t:Typ)(n:List UInt8):Option Field:=t.fields.find? fun f=>f.name==n
def zhA(p:Part)(n f:List UInt8):Option Field:=(tyM p n).bind fun t=>fdM t f
def ty0:Typ:=⟨[],[],[]⟩
def fd0:Field:=⟨[],[],false,false,false,false,false,[]⟩
theorem zg3{p:Part}{n:List UInt8}(hl:p.types.length<=4611686018427387904):zfh (p,n)=some (ixM (fun t=>t.name==n) p.types):=by
 rw[zo3];unfold zl7;dsimp only
 exact ixf (g:=fun t:Typ=>some (t.name==n)) (fun t=>t.name==n) hl (fun _ _=>rfl)
theorem zfJ{t:Typ}{n:List UInt8}(hl:t.fields.length<=4611686018427387904):zeo (t,n)=some (ixM (fun f=>f.name==n) t.fields):=by
 rw[zn1];unfold zjq;dsimp only
 exact ixf (g:=fun f:Field=>some (f.name==n)) (fun f=>f.name==n) hl (fun _ _=>rfl)
theorem zBA(t:Typ)(n:List UInt8):zb3 (t,n)=some (t.name==n):=by rw[zha];unfold zcP;dsimp only
theorem ztv(t:Field)(n:List UInt8):zbC (t,n)=some (t.name==n):=by rw[zhc];unfold zcR;dsimp only
theorem zrH{p:Part}{n:List UInt8}(hl:p.types.length<=4611686018427387904):zbp (p,n)=some ((tyM p n).getD ty0,(tyM p n).isSome):=by
 rw[ziW];unfold zd8;dsimp only
 have h:zcz (p.types,n)=some (ixM (fun t=>t.name==n) p.types):=by
  rw[zgK];unfold zct;dsimp only
  exact ixf (g:=fun t:Typ=>zb3 (t,n)) (fun t=>t.name==n) hl (fun t _=>zBA t n)
 rw[h,zac]
 unfold tyM
 rcases zcf (fun t:Typ=>t.name==n) p.types with⟨h1,h2,_⟩|⟨i,hi,h1,h2,_,_⟩
 ·rw[h1,h2];rfl
 ·have h3:decide ((i:Int)<0)=false:=by simp
  rw[h1,h2,h3,zaE,zal hi];rfl
theorem zoJ{t:Typ}{n:List UInt8}(hl:t.fields.length<=4611686018427387904):zbq (t,n)=some ((fdM t n).getD fd0,(fdM t n).isSome):=by
 rw[ziX];unfold zd9;dsimp only
 have h:zbh (t.fields,n)=some (ixM (fun t=>t.name==n) t.fields):=by
  rw[zdM];unfold zbK;dsimp only
  exact ixf (g:=fun t:Field=>zbC (t,n)) (fun t=>t.name==n) hl (fun t _=>ztv t n)
 rw[h,zac]
 unfold fdM
 rcases zcf (fun t:Field=>t.name==n) t.fields with⟨h1,h2,_⟩|⟨i,hi,h1,h2,_,_⟩
 ·rw[h1,h2];rfl
 ·have h3:decide ((i:Int)<0)=false:=by simp
  rw[h1,h2,h3,zaE,zal hi];rfl
end Go.Fw
namespace Go.Fw
open Go
set_option linter.unusedSimpArgs false
set_option linter.unusedVariables false
theorem zrj:∀(x y:List UInt8),(Op.bytesLess x y ||x==y)= !Op.bytesLess y x
 | [],[]=>rfl
 | [],_:: _=>rfl
 | _:: _,[]=>rfl
 | a:: x,b:: y=>by
  have ih:=zrj x y
  unfold Op.bytesLess
  by_cases h1:a<b
  ·have h2:¬b<a:=fun h=>by have:=UInt8.lt_asymm h1;exact this h
   have h3:¬b=a:=fun h=>by subst h;exact UInt8.lt_irrefl _ h1
   simp[h1,h2,h3]
  ·by_cases h2:b<a
   ·have h3:¬a=b:=fun h=>by subst h;exact UInt8.lt_irrefl _ h2
    simp[h1,h2,h3]
   ·have h3:a=b:=by
     apply UInt8.toNat_inj.1
     rw[UInt8.lt_iff_toNat_lt]at h1 h2
     omega
    subst h3
    simpa[UInt8.lt_irrefl]using ih
def zmV(f:Field):Bool:=f.of==[105,110,116]&&(!f.list&&!decide (0<f.needs.length))
def zDN(t:Typ):Bool:=t.key==[] ||match fdM t t.key with
 | none=>false
 | some f=>zmV f&&(f.must&&(!f.far&&!f.hidden))
theorem zmP{α:Type}(l:List α):decide ((l.length:Int)>0)=decide (0<l.length):=by simp
theorem zGc{α:Type}(l:List α):((l.length:Int)==0)= !decide (0<l.length):=zDd _
theorem zoS(f:Field):za5 f=some (decide (0<f.needs.length)):=by
 rw[zg9];unfold zcO
 rw[zmP]
theorem zw9(f:Field):zbd f=some (zmV f):=by
 rw[zfu];unfold zbP
 rw[zoS]
 unfold zmV
 cases(f.of==[105,110,116])<;>cases f.list<;>rfl
theorem zyc{t:Typ}(hl:t.fields.length<=4611686018427387904):zo0 t=some (zDN t):=by
 rw[zqR];unfold zoV
 unfold zDN
 cases hk:(t.key==[])with
 | true=>rfl
 | false =>
  rw[zae,zfJ hl,zac]
  unfold fdM
  rcases zcf (fun f:Field=>f.name==t.key) t.fields with⟨h1,h2,_⟩|⟨i,hi,h1,h2,_,_⟩
  ·rw[h1,h2];rfl
  ·have h3:decide ((i:Int)<0)=false:=by simp
   rw[h1,h2,h3,zaE,zal hi]
   simp only[zae,zag,zac,zmV,zGc]
   generalize t.fields[i]=f
   cases(f.of==[105,110,116])<;>cases f.list<;>cases f.must<;>cases f.far<;>cases f.hidden<;>cases decide (0<f.needs.length)<;>rfl
theorem zyX{t:Typ}(hl:t.fields.length<=4611686018427387904):zcV t=some (!zDN t):=by
 rw[zhb];unfold zcQ
 unfold zDN
 cases hk:(t.key==[])with
 | true=>rfl
 | false =>
  rw[zae,zoJ hl,zac]
  cases fdM t t.key with
  | none=>rfl
  | some f =>
   simp only[Option.getD_some,Option.isSome_some,Bool.not_true,zae,zw9,zac]
   cases zmV f<;>cases f.must<;>cases f.far<;>cases f.hidden<;>rfl
def zvm(t:Typ)(f:Field)(i:Nat)(n:List UInt8):Bool:=match fdM t n with
 | none=>false
 | some g=>zmV g&&(i==0 ||match f.needs[i-1]? with
  | some m=>Op.bytesLess m n
  | none=>true)
def zx1(t:Typ)(f:Field):Bool:=(!decide (0<f.needs.length) ||(f.of==[105,110,116]&&(!f.list&&(!f.far&&(!f.must&&(!(t.key==[])&&!(f.name==t.key)))))))&&zqW (zvm t f) 0 f.needs
def zlk(t:Typ)(f:Field):Bool:=zx1 t f&&!(f.far&&f.shared)
theorem zwi(i:Nat):decide ((i:Int)>0)= !(i==0):=by
 cases i<;>simp
theorem zua{t:Typ}{f:Field}(hl:t.fields.length<=4611686018427387904)(hf:f.needs.length<=4611686018427387904):zjE (t,f)=some (zx1 t f):=by
 rw[zn2];unfold zjr;dsimp only
 unfold zx1
 have h0:(zab (decide ((↑(List.length f.needs):Int)>0))
   (zab (f.of !=[105,110,116]) (some true)
    (zab f.list (some true) (zab f.far (some true) (zab f.must (some true) (zab (t.key==[]) (some true) (some (f.name==t.key)))))))
   (some false))=some (!(!decide (0<f.needs.length) ||(f.of==[105,110,116]&&(!f.list&&(!f.far&&(!f.must&&(!(t.key==[])&&!(f.name==t.key)))))))):=by
  rw[zmP]
  simp only[bne]
  cases decide (0<f.needs.length)<;>cases(f.of==[105,110,116])<;>cases f.list<;>cases f.far<;>cases f.must<;>cases(t.key==[])<;>cases(f.name==t.key)<;>rfl
 rw[h0,zac]
 cases(!decide (0<f.needs.length) ||(f.of==[105,110,116]&&(!f.list&&(!f.far&&(!f.must&&(!(t.key==[])&&!(f.name==t.key)))))))with
 | false=>rfl
 | true =>
  simp only[Bool.not_true,zae,Bool.true_and]
  rw[zdK (s0:=(0:Int)) f.needs (fun i=>(i:Int)) (f.needs.length:Int) (fun i c=>bif zvm t f i c then none else some false) rfl ?_ ?_]
  ·rw[zdo]
   cases zqW (zvm t f) 0 f.needs<;>rfl
  ·intro i h
   have h3:=zar h hf
   simp only[zaO h,zaE,zal h,zaf,zag,zac,zfJ hl,h3]
   unfold zvm fdM
   rcases zcf (fun g:Field=>g.name==f.needs[i]) t.fields with⟨h1,h2,_⟩|⟨k,hk,h1,h2,_,_⟩
   ·rw[h1,h2];rfl
   ·have h4:decide ((k:Int)<0)=false:=by simp
    rw[h1,h2,h4]
    simp only[zaE,zal hk,zae,zag,zac,zmP,zmV,zwi i]
    generalize t.fields[k]=g
    cases i with
    | zero =>
     simp only[bne]
     cases decide (0<g.needs.length)<;>cases(g.of==[105,110,116])<;>cases g.list<;>rfl
    | succ i =>
     have h5:(((i+1:Nat):Int)-1)=(i:Int):=by omega
     have h6:zas (i:Int)=true:=zbw (by omega) (by omega)
     have h7:i<f.needs.length:=by omega
     simp only[h5,h6,zaE,zal h7,zag,zac,Nat.add_sub_cancel,ygb h7,bne]
     cases decide (0<g.needs.length)<;>cases(g.of==[105,110,116])<;>cases g.list<;>cases Op.bytesLess f.needs[i] f.needs[i+1]<;>rfl
  ·simp only[zap,zae]
theorem zxq{t:Typ}{f:Field}(hl:t.fields.length<=4611686018427387904)(hf:f.needs.length<=4611686018427387904):zbM (t,f)=some (!zlk t f):=by
 rw[zgF];unfold zcq;dsimp only
 unfold zlk zx1
 cases hfs:(f.far&&f.shared)with
 | true =>
  simp only[yhb]at hfs
  simp only[hfs.1,hfs.2,zaf,zac,Bool.not_true,Bool.and_false,Bool.not_false]
 | false =>
  have h0:zab f.far (some f.shared) (some false)=some false:=by
   cases hf1:f.far with
   | false=>rfl
   | true=>cases hf2:f.shared with
    | false=>rfl
    | true=>simp[hf1,hf2]at hfs
  rw[h0,zac,zae,zoS,zac]
  cases hn:f.needs with
  | nil=>rfl
  | cons n0 ns =>
   rw[<-hn]
   have hpos:decide (0<f.needs.length)=true:=by simp[hn]
   rw[hpos]
   have h1:(zab (f.of !=[105,110,116]) (some true)
       (zab f.list (some true) (zab f.far (some true) (zab f.must (some true) (zab (f.name==t.key) (some true) (some (t.key==[])))))))=some (!(f.of==[105,110,116]&&(!f.list&&(!f.far&&(!f.must&&(!(t.key==[])&&!(f.name==t.key))))))):=by
    simp only[bne]
    cases(f.of==[105,110,116])<;>cases f.list<;>cases f.far<;>cases f.must<;>cases(t.key==[])<;>cases(f.name==t.key)<;>rfl
   rw[h1,zac]
   simp only[Bool.not_true,zae,Bool.false_or]
   cases(f.of==[105,110,116]&&(!f.list&&(!f.far&&(!f.must&&(!(t.key==[])&&!(f.name==t.key))))))with
   | false=>rfl
   | true =>
    simp only[Bool.not_true,zae,Bool.true_and]
    rw[zdK (s0:=(0:Int)) f.needs (fun i=>(i:Int)) (f.needs.length:Int) (fun i c=>bif zvm t f i c then none else some true) rfl ?_ ?_]
    ·rw[zdo]
     cases zqW (zvm t f) 0 f.needs<;>rfl
    ·intro i h
     have h3:=zar h hf
     simp only[zaO h,zaE,zal h,zaf,zag,zac,zoJ hl,h3]
     unfold zvm
     cases fdM t f.needs[i]with
     | none=>rfl
     | some g =>
      simp only[Option.getD_some,Option.isSome_some,Bool.not_true,zae,zw9,zac,zwi i]
      cases i with
      | zero=>cases zmV g<;>rfl
      | succ i =>
       have h5:(((i+1:Nat):Int)-1)=(i:Int):=by omega
       have h6:zas (i:Int)=true:=zbw (by omega) (by omega)
       have h7:i<f.needs.length:=by omega
       simp only[h5,h6,zaE,zal h7,zag,zac,Nat.add_sub_cancel,ygb h7,zrj]
       cases zmV g<;>cases Op.bytesLess f.needs[i] f.needs[i+1]<;>rfl
    ·simp only[zap,zae]
end Go.Fw
namespace Go.Fw
open Go
set_option linter.unusedSimpArgs false
set_option linter.unusedVariables false
def zpK(f:Field):Bool:=nameM f.name&&((zvB f.of ||nameM f.of)&&f.needs.all nameM)
def lineM(t:Typ):Bool:=nameM t.name&&((t.key==[] ||nameM t.key)&&(decide (0<t.fields.length)&&(decide (t.fields.length<=8)&&t.fields.all zpK)))
def zyt(t:Typ):Bool:=zqW (fun i f=>ixM (fun g:Field=>g.name==f.name) t.fields==(i:Int)) 0 t.fields
def knownM(p:Part)(f:Field):Bool:=zvB f.of ||(tyM p f.of).isSome
def zdJ(p:Part)(i:Nat)(t:Typ):Int:=
 bif !lineM t then 1 else bif !(ixM (fun u:Typ=>u.name==t.name) p.types==(i:Int))then 2 else bif !zyt t then 2 else bif !t.fields.all (knownM p)then 3 else bif !zDN t then 4 else bif !t.fields.all (zlk t)then 5 else 0
theorem zDc(n:Nat):decide ((n:Int)>8)= !decide (n<=8):=by
 by_cases h:n<=8
 ·simp[h];omega
 ·simp[h];omega
theorem zBg(n:Nat):decide ((n:Int)<=8)=decide (n<=8):=zC9 n
theorem zCv(n:Nat):decide ((1:Int)<=(n:Int))=decide (0<n):=by simp;omega
theorem zuz{s:List UInt8}(h:s.length<=KK):zbe s=some (!nameM s):=by
 rw[zfw];unfold zbR
 rw[ze5 (up h)];rfl
theorem zuA{f:Field}(h:KF KK f):zbf f=some (!zpK f):=by
 rw[zfx];unfold zbS
 have h1:zaW f.needs=some (!f.needs.all nameM):=by
  rw[zeI];unfold zby
  have h2:zbD f.needs=some (ixM (fun s=>!nameM s) f.needs):=by
   rw[zeK];unfold zbA
   exact ixf (g:=zbe) _ (up h.2.2.1) (fun s hs=>zuz (h.2.2.2 s hs))
  rw[h2,zac,zlh,List.not_all_eq_any_not]
 rw[ze5 (up h.1),h1,ze5 (up h.2.1),ztZ]
 unfold zpK
 cases nameM f.name<;>cases nameM f.of<;>cases zvB f.of<;>cases f.needs.all nameM<;>rfl
theorem zxp{t:Typ}(h:KT KK t):zcx t=some (!lineM t):=by
 rw[zgE];unfold zcp
 have h1:zaX t.fields=some (!t.fields.all zpK):=by
  rw[zeJ];unfold zbz
  have h2:zbE t.fields=some (ixM (fun s=>!zpK s) t.fields):=by
   rw[zeL];unfold zbB
   exact ixf (g:=zbf) _ (up h.2.2.1) (fun s hs=>zuA (h.2.2.2 s hs))
  rw[h2,zac,zlh,List.not_all_eq_any_not]
 rw[ze5 (up h.1),ze5 (up h.2.1),h1,zmI,zCv,zBg]
 unfold lineM
 simp only[bne]
 cases nameM t.name<;>cases(t.key==[])<;>cases nameM t.key<;>cases decide (0<t.fields.length)<;>cases decide (t.fields.length<=8)<;>cases t.fields.all zpK<;>rfl
theorem zBS{t:Typ}(h:KT KK t):zdC t=some (t.fields.map (·.name)):=by
 rw[zhV];unfold zdw
 have hL:LIM=1099511627776:=rfl
 have hk:KK=1048576:=rfl
 have hl:=h.2.2.1
 rw[zeH (s0:=((0:Int),([]:List (List UInt8)))) t.fields.length (fun i=>((i:Int),(t.fields.take i).map (·.name))) ((t.fields.length:Int),t.fields.map (·.name)) rfl ?_ ?_]
 ·intro i hi
  have h3:=zar hi (up hl)
  have h4:decide (List.length ((t.fields.take i).map (·.name))+List.length [t.fields[i].name]<=LIM)=true:=by
   simp;omega
  simp only[zaO hi,zaE,zal hi,zaf,zag,zac,h3,h4]
  rw[List.take_succ_eq_append_getElem hi,List.map_append]
  rfl
 ·simp only[zap,zae,List.take_length]
theorem zCj{l:List (List UInt8)}(hl:l.length<=KK):zjB l=some (!zqW (fun i s=>!(l.take i).any fun x=>s==x) 0 l):=by
 rw[znZ];unfold zjo
 rw[zdK (s0:=(0:Int)) l (fun i=>(i:Int)) (l.length:Int) (fun i s=>bif (!(l.take i).any fun x=>s==x)then none else some true) rfl ?_ ?_]
 ·rw[zdo]
  cases zqW (fun i s=>!(l.take i).any fun x=>s==x) 0 l<;>rfl
 ·intro i h
  have h3:=zar h (up hl)
  have h4:decide ((i:Int)<=(l.length:Int))=true:=by simp;omega
  have h5:(List.take (Int.toNat (i:Int)-Int.toNat 0) (List.drop (Int.toNat 0) l))=l.take i:=by simp
  simp only[zaO h,zaE,zal h,zaf,zag,zac,h3,h4,h5,decide_true,Bool.and_self,Int.le_refl]
  rw[zpa (by rw[List.length_take];exact Nat.le_trans (Nat.min_le_right _ _) (up hl)),zac]
  cases(l.take i).any fun x=>l[i]==x<;>rfl
 ·simp only[zap,zae]
theorem zvN{t:Typ}:zqW (fun i s=>!((t.fields.map (·.name)).take i).any fun x=>s==x) 0 (t.fields.map (·.name))=zyt t:=by
 unfold zyt
 rw[Bool.eq_iff_iff,zkw,zkw]
 have hx:∀(j:Nat)(hj:j<t.fields.length),((t.fields.map (·.name)).take j).any (fun x=>t.fields[j].name==x)=(t.fields.take j).any fun g=>g.name==t.fields[j].name:=by
  intro j hj
  rw[<-List.map_take,List.any_map]
  congr 1
  funext g
  exact BEq.comm
 constructor
 ·intro h j hj
  have:=h j (by simpa using hj)
  rw[List.getElem_map,Nat.zero_add,hx j hj]at this
  rw[Nat.zero_add,zzI hj (by simp)]
  exact this
 ·intro h j hj
  have hj':j<t.fields.length:=by simpa using hj
  have:=h j hj'
  rw[Nat.zero_add,zzI hj' (by simp)]at this
  rw[List.getElem_map,Nat.zero_add,hx j hj']
  exact this
theorem zxk(p:Part)(n:List UInt8):(tyM p n).isSome=p.types.any fun t=>t.name==n:=by
 unfold tyM
 rcases zcf (fun t:Typ=>t.name==n) p.types with⟨_,h2,h3⟩|⟨i,hi,_,h2,_,h3⟩
 ·rw[h2,h3];rfl
 ·rw[h2,h3];rfl
def isQ(f:Field):Bool:=f.of==[113,117,101,114,121]
theorem zud{p:Part}{i:Nat}(hp:KP KK p)(hi:i<p.types.length):zbT (p,(i:Int))=some (bif !(zdJ p i p.types[i]==0)then zdJ p i p.types[i]else bif p.types[i].fields.any isQ then 7 else 0):=by
 rw[zfv];unfold zbQ;dsimp only
 have ht:=hp.2.2 _ (ygh hi)
 have hT:=up ht.2.2.1
 have h4:decide ((i:Int)<=(p.types.length:Int))=true:=by simp;omega
 have h5:(List.take (Int.toNat (i:Int)-Int.toNat 0) (List.drop (Int.toNat 0) p.types))=p.types.take i:=by simp
 simp only[zaE,zal hi,zag,zac,h4,h5,decide_true,Bool.and_self,Int.le_refl]
 have h6:zbp (⟨[],p.types.take i⟩,p.types[i].name)=some ((tyM ⟨[],p.types.take i⟩ p.types[i].name).getD ty0,!(ixM (fun u:Typ=>u.name==p.types[i].name) p.types==(i:Int))):=by
  rw[zrH (by show(p.types.take i).length<=_;rw[List.length_take];exact Nat.le_trans (Nat.min_le_right _ _) (up hp.2.1)),zxk,zzI hi (by simp),Bool.not_not]
 have k1:za6 (p.types[i].fields,p)=some (!p.types[i].fields.all (knownM p)):=by
  rw[zdZ];unfold zaZ;dsimp only
  have h2:za8 (p.types[i].fields,p)=some (ixM (fun f=>!knownM p f) p.types[i].fields):=by
   rw[zd1];unfold za1;dsimp only
   refine ixf (g:=fun f=>zbn (f,p)) _ hT (fun f hf=>?_)
   rw[zel];unfold zbl;dsimp only
   rw[zrH (up hp.2.1),ztZ]
   unfold knownM
   cases zvB f.of<;>cases(tyM p f.of).isSome<;>rfl
  rw[h2,zac,zlh,List.not_all_eq_any_not]
 have k2:zb5 (p.types[i].fields,p.types[i])=some (!p.types[i].fields.all (zlk p.types[i])):=by
  rw[zfW];unfold zbY;dsimp only
  have h2:zb8 (p.types[i].fields,p.types[i])=some (ixM (fun f=>!zlk p.types[i] f) p.types[i].fields):=by
   rw[zfZ];unfold zb1;dsimp only
   exact ixf (g:=fun f=>zbM (p.types[i],f)) _ hT (fun f hf=>zxq hT (up (ht.2.2.2 f hf).2.2.1))
  rw[h2,zac,zlh,List.not_all_eq_any_not]
 have k3:za7 p.types[i].fields=some (p.types[i].fields.any isQ):=by
  rw[zd0];unfold za0
  have h2:za9 p.types[i].fields=some (ixM isQ p.types[i].fields):=by
   rw[zd2];unfold za2
   refine ixf (g:=zbo) _ hT (fun f hf=>?_)
   rw[zem];unfold zbm
   rfl
  rw[h2,zac,zlh]
 rw[h6]
 simp only[zac,zxp ht,zBS ht,zCj (show(p.types[i].fields.map (·.name)).length<=KK by rw[List.length_map];exact ht.2.2.1),zvN,k1,k2,k3,zyX hT]
 unfold zdJ
 cases lineM p.types[i]<;>cases(ixM (fun u:Typ=>u.name==p.types[i].name) p.types==(i:Int))<;>cases zyt p.types[i]<;>cases p.types[i].fields.all (knownM p)<;>cases zDN p.types[i]<;>cases p.types[i].fields.all (zlk p.types[i])<;>cases p.types[i].fields.any isQ<;>rfl
end Go.Fw
namespace Go.Fw
open Go
set_option linter.unusedSimpArgs false
set_option linter.unusedVariables false
def ndM(l:List (List UInt8)):List UInt8:=l.flatMap fun n=>32:: n
def flM(f:Field):Nat->List UInt8
 | 0=>[]
 | 1=>bif f.far then[32,102,97,114]else[]
 | 2=>(bif f.far then[32,102,97,114]else[])++(bif f.hidden then[32,104,105,100,100,101,110]else[])
 | _=>(bif f.far then[32,102,97,114]else[])++(bif f.hidden then[32,104,105,100,100,101,110]else[])++(bif f.shared then[32,115,104,97,114,101,100]else[])
def ofM(f:Field):List UInt8:=(bif f.list then[91]++f.of++[93]else f.of)++(bif f.must then[33]else[])
def hdM(f:Field):List UInt8:=[32,32]++f.name++[32]++ofM f
def nsM(f:Field):List UInt8:=bif decide (0<f.needs.length)then[32,110,101,101,100,115]++ndM f.needs else[]
def lnM(f:Field):List UInt8:=hdM f++flM f 3++nsM f++[10]
theorem zpR{l:List (List UInt8)}(h:∀s∈l,s.length<=8):(ndM l).length<=9*l.length:=by
 induction l with
 | nil=>simp[ndM]
 | cons x l ih =>
  have h1:=h x (by simp)
  have h2:=ih fun s hs=>h s (by simp[hs])
  unfold ndM at h2|-
  simp only[List.flatMap_cons,yhr,yhs]
  omega
theorem zjV(f:Field)(i:Nat):(flM f i).length<=18:=by
 unfold flM
 split<;>cases f.far<;>cases f.hidden<;>cases f.shared<;>simp
theorem zvq{f:Field}(h:f.of.length<=8):(ofM f).length<=11:=by
 unfold ofM
 cases f.list<;>cases f.must<;>simp<;>omega
theorem zu1{f:Field}(h:f.of.length<=8)(h2:f.name.length<=8):(hdM f).length<=22:=by
 have:=zvq h
 unfold hdM
 simp only[yhr,yhs,yht]
 omega
theorem zB8{s:List UInt8}(h:zvB s=true):s.length<=4:=by
 unfold zvB at h
 simp only[Bool.or_eq_true,yhe]at h
 rcases h with(h|h)|h<;>subst h<;>simp
structure Ln (f:Field):Prop where
 name:f.name.length<=8
 of:f.of.length<=8
 need:∀s∈f.needs,s.length<=8
 needs:f.needs.length<=1048576
theorem Ln.mk'{f:Field}(h:KF KK f)(hl:zpK f=true):Ln f:=by
 unfold zpK at hl
 simp only[yhb,Bool.or_eq_true,List.all_eq_true]at hl
 refine⟨zeE hl.1,?_,fun s hs=>zeE (hl.2.2 s hs),h.2.2.1⟩
 rcases hl.2.1 with h1|h1
 ·exact Nat.le_trans (zB8 h1) (by decide)
 ·exact zeE h1
theorem zvj{f:Field}(h:Ln f):(lnM f).length<=9500000:=by
 have h1:=zu1 h.of h.name
 have h2:=zjV f 3
 have h3:=zpR h.need
 have h4:=h.needs
 unfold lnM nsM
 cases decide (0<f.needs.length)<;>simp only[cond_true,cond_false,yhr,yhs,yht]<;>omega
theorem big{n:Nat}(h:n<=9000000000):decide (n<=BIG)=true:=by
 have:BIG=9223372036854775807:=rfl
 simp;omega
theorem zEH{l:List (List UInt8)}{i:Nat}(h:i<l.length):ndM (l.take (i+1))=ndM (l.take i)++[32]++l[i]:=by
 unfold ndM
 rw[List.take_succ_eq_append_getElem h,List.flatMap_append]
 simp
theorem zx0{l:List (List UInt8)}(h:∀s∈l,s.length<=8)(h2:l.length<=1048576)(i:Nat):(ndM (l.take i)).length<=9437184:=by
 have:=zpR (l:=l.take i) fun s hs=>h s (List.mem_of_mem_take hs)
 have h3:(l.take i).length<=l.length:=by rw[List.length_take];exact Nat.min_le_right _ _
 omega
theorem zvG{f:Field}(h:Ln f):zmf f=some (lnM f):=by
 rw[zo1];unfold zl5
 show _=some (hdM f++flM f 3++nsM f++[10])
 obtain⟨hn,ho,hs,hl⟩:=h
 have k1:(zab f.list (gd (decide (List.length [91]+List.length f.of<=BIG)) (gd (decide (List.length ([91]++f.of)+List.length [93]<=BIG)) (some ([91]++f.of++[93])))) (some f.of))=some (bif f.list then[91]++f.of++[93]else f.of):=by
  rw[big (n:=List.length [91]+List.length f.of) (by simp;omega),big (n:=List.length ([91]++f.of)+List.length [93]) (by simp;omega)]
  cases f.list<;>rfl
 have l1:(bif f.list then[91]++f.of++[93]else f.of).length<=10:=by cases f.list<;>simp<;>omega
 rw[k1,zac]
 have k2:(zab f.must (gd (decide (List.length (bif f.list then[91]++f.of++[93]else f.of)+List.length [33]<=BIG)) (some ((bif f.list then[91]++f.of++[93]else f.of)++[33]))) (some (bif f.list then[91]++f.of++[93]else f.of)))=some (ofM f):=by
  rw[big (n:=List.length (bif f.list then[91]++f.of++[93]else f.of)+List.length [33]) (by simp only[yhs,yht];omega)]
  unfold ofM
  cases f.must<;>simp[zab,gd]
 rw[k2,zac]
 have l2:=zvq ho
 rw[big (n:=List.length [32,32]+List.length f.name) (by simp;omega),big (n:=List.length ([32,32]++f.name)+List.length [32]) (by simp;omega),big (n:=List.length ([32,32]++f.name++[32])+List.length (ofM f)) (by simp only[yhr,yhs,yht];omega)]
 simp only[zag]
 have e1:[32,32]++f.name++[32]++ofM f=hdM f:=rfl
 rw[e1]
 have l3:=zu1 ho hn
 generalize hdM f=x at *
 have k3:(zab f.far (gd (decide (List.length x+List.length [32,102,97,114]<=BIG)) (some (x++[32,102,97,114]))) (some x))=some (x++flM f 1):=by
  rw[big (n:=List.length x+List.length [32,102,97,114]) (by simp only[yhs,yht];omega)]
  unfold flM
  cases f.far<;>simp[zab,gd]
 rw[k3,zac]
 have l4:=zjV f 1
 have k4:(zab f.hidden (gd (decide (List.length (x++flM f 1)+List.length [32,104,105,100,100,101,110]<=BIG)) (some (x++flM f 1++[32,104,105,100,100,101,110]))) (some (x++flM f 1)))=some (x++flM f 2):=by
  rw[big (n:=List.length (x++flM f 1)+List.length [32,104,105,100,100,101,110]) (by simp only[yhr,yhs,yht];omega)]
  unfold flM
  cases f.hidden<;>simp[zab,gd]
 rw[k4,zac]
 have l5:=zjV f 2
 have k5:(zab f.shared (gd (decide (List.length (x++flM f 2)+List.length [32,115,104,97,114,101,100]<=BIG)) (some (x++flM f 2++[32,115,104,97,114,101,100]))) (some (x++flM f 2)))=some (x++flM f 3):=by
  rw[big (n:=List.length (x++flM f 2)+List.length [32,115,104,97,114,101,100]) (by simp only[yhr,yhs,yht];omega)]
  unfold flM
  cases f.shared<;>simp[zab,gd]
 rw[k5,zac]
 have l6:=zjV f 3
 have l7:(x++flM f 3).length<=40:=by rw[yhr];omega
 generalize hy:x++flM f 3=y at *
 have k6:(zab (decide ((↑(List.length f.needs):Int)>0)) (gd (decide (List.length y+List.length [32,110,101,101,100,115]<=BIG)) (some (y++[32,110,101,101,100,115]))) (some y))=some (y++bif decide (0<f.needs.length)then[32,110,101,101,100,115]else[]):=by
  rw[big (n:=List.length y+List.length [32,110,101,101,100,115]) (by simp only[yhs,yht];omega),zmP]
  cases decide (0<f.needs.length)<;>simp[zab,gd]
 rw[k6,zac]
 have l8:(y++bif decide (0<f.needs.length)then[32,110,101,101,100,115]else[]).length<=50:=by cases decide (0<f.needs.length)<;>simp<;>omega
 have e2:y++nsM f++[10]=(y++bif decide (0<f.needs.length)then[32,110,101,101,100,115]else[])++ndM f.needs++[10]:=by
  unfold nsM
  cases hd:decide (0<f.needs.length)with
  | true=>simp
  | false =>
   have:f.needs=[]:=by
    cases hf:f.needs with
    | nil=>rfl
    | cons a b=>rw[hf]at hd;simp at hd
   simp[this,ndM]
 rw[e2]
 generalize(y++bif decide (0<f.needs.length)then[32,110,101,101,100,115]else[])=z at *
 have l9:=fun i=>zx0 hs hl i
 rw[zeH (s0:=(z,(0:Int))) f.needs.length (fun i=>(z++ndM (f.needs.take i),(i:Int))) (z++ndM f.needs,(f.needs.length:Int)) (by simp[ndM]) ?_ ?_]
 ·dsimp only
  have l10:=zpR hs
  rw[big (n:=(z++ndM f.needs).length+List.length [10]) (by simp only[yhr,yhs,yht];omega)]
  rfl
 ·intro i hi
  have l11:=l9 i
  have l12:=hs _ (ygh hi)
  have h3:=zar hi (up hl)
  have g1:=big (n:=List.length (z++ndM (f.needs.take i))+List.length [32]) (by simp only[yhr,yhs,yht];omega)
  have g2:=big (n:=List.length (z++ndM (f.needs.take i)++[32])+List.length f.needs[i]) (by simp only[yhr,yhs,yht];omega)
  simp only[zaO hi,zaE,zal hi,zaf,zag,zac,h3,g1,g2]
  rw[zEH hi]
  simp only[List.append_assoc]
  rfl
 ·simp only[zap,zae,List.take_length]
theorem zDI{l:List (List UInt8)}(h:decide (0<l.length)=true):32:: Lib.join l [32]=ndM l:=by
 cases l with
 | nil=>simp at h
 | cons x r =>
  rw[Lib.join_cons]
  unfold Lib.joinTail ndM
  rw[List.flatMap_cons]
  simp[List.flatMap]
theorem zu3{f:Field}(h:Ln f):zdA f=some (lnM f):=by
 rw[zhS];unfold zdt
 show _=some (hdM f++flM f 3++nsM f++[10])
 obtain⟨hn,ho,hs,hl⟩:=h
 have k1:(zab f.list (gd (decide (List.length [91]+List.length f.of<=BIG)) (gd (decide (List.length ([91]++f.of)+List.length [93]<=BIG)) (some ([91]++f.of++[93])))) (some f.of))=some (bif f.list then[91]++f.of++[93]else f.of):=by
  rw[big (n:=List.length [91]+List.length f.of) (by simp;omega),big (n:=List.length ([91]++f.of)+List.length [93]) (by simp;omega)]
  cases f.list<;>rfl
 have l1:(bif f.list then[91]++f.of++[93]else f.of).length<=10:=by cases f.list<;>simp<;>omega
 rw[k1,zac]
 have k2:(zab f.must (gd (decide (List.length (bif f.list then[91]++f.of++[93]else f.of)+List.length [33]<=BIG)) (some ((bif f.list then[91]++f.of++[93]else f.of)++[33]))) (some (bif f.list then[91]++f.of++[93]else f.of)))=some (ofM f):=by
  rw[big (n:=List.length (bif f.list then[91]++f.of++[93]else f.of)+List.length [33]) (by simp only[yhs,yht];omega)]
  unfold ofM
  cases f.must<;>simp[zab,gd]
 rw[k2,zac]
 have l2:=zvq ho
 rw[big (n:=List.length [32,32]+List.length f.name) (by simp;omega),big (n:=List.length ([32,32]++f.name)+List.length [32]) (by simp;omega),big (n:=List.length ([32,32]++f.name++[32])+List.length (ofM f)) (by simp only[yhr,yhs,yht];omega)]
 simp only[zag]
 have e1:[32,32]++f.name++[32]++ofM f=hdM f:=rfl
 rw[e1]
 have l3:=zu1 ho hn
 generalize hdM f=x at *
 rw[zeH (s0:=(x,(0:Int))) 3 (fun i=>(x++flM f i,(i:Int))) (x++flM f 3,(3:Int)) (by simp[flM]) ?_ ?_]
 ·dsimp only
  have l6:=zjV f 3
  have l7:(x++flM f 3).length<=40:=by rw[yhr];omega
  generalize x++flM f 3=y at *
  rw[zoS,zac]
  have l8:(nsM f).length<=9437200:=by
   have:=zpR hs
   unfold nsM
   cases decide (0<f.needs.length)<;>simp<;>omega
  have k3:(zab (decide (0<f.needs.length)) (zaa (zaQ (f.needs,[32])) fun(x_2:List UInt8) =>
           gd (decide (List.length [32,110,101,101,100,115,32]+List.length x_2<=BIG))
            (gd (decide (List.length y+List.length ([32,110,101,101,100,115,32]++x_2)<=BIG))
             (some (y++([32,110,101,101,100,115,32]++x_2))))) (some y))=some (y++nsM f):=by
   cases hd:decide (0<f.needs.length)with
   | false=>simp[zab,nsM,hd]
   | true =>
    have hj:=zDI hd
    have l9:=zpR hs
    have l10:(Lib.join f.needs [32]).length+1=(ndM f.needs).length:=by rw[<-hj];simp
    have l11:decide (f.needs.length<=140737488355328)=true:=by simp;omega
    have l12:decide ((Lib.join f.needs [32]).length<=140737488355328)=true:=by simp;omega
    have hJ:zaQ (f.needs,[32])=some (Lib.join f.needs [32]):=by
     rw[zeS]
     unfold zdy zzJ
     dsimp only
     rw[l11,l12];rfl
    rw[hJ,zac,zaf,big (n:=List.length [32,110,101,101,100,115,32]+List.length (Lib.join f.needs [32])) (by simp only[yhs,yht];omega),
     big (n:=List.length y+List.length ([32,110,101,101,100,115,32]++Lib.join f.needs [32])) (by simp only[yhr,yhs,yht];omega)]
    simp only[zag,nsM,hd,cond_true]
    rw[<-hj]
    simp
  rw[k3,zac,big (n:=(y++nsM f).length+List.length [10]) (by simp only[yhr,yhs,yht];omega)]
  rfl
 ·intro i hi
  have l4:=zjV f 0
  have l5:=zjV f 1
  have l6:=zjV f 2
  rcases i with _|_|_|i
  ·have g:=big (n:=List.length (x++flM f 0)+List.length [32,102,97,114]) (by simp only[yhr,yhs,yht];omega)
   simp[flM]at g
   simp only[Nat.zero_add,Nat.reduceAdd,flM]
   cases f.far<;>simp[zab,gd,zaa,zas,g]
  ·have g:=big (n:=List.length (x++flM f 1)+List.length [32,104,105,100,100,101,110]) (by simp only[yhr,yhs,yht];omega)
   simp[flM]at g
   simp only[Nat.zero_add,Nat.reduceAdd,flM]
   cases f.hidden<;>simp[zab,gd,zaa,zas,g]
  ·have g:=big (n:=List.length (x++flM f 2)+List.length [32,115,104,97,114,101,100]) (by simp only[yhr,yhs,yht];omega)
   simp[flM]at g
   simp only[Nat.zero_add,Nat.reduceAdd,flM]
   cases f.shared<;>simp[zab,gd,zaa,zas,g]
  ·omega
 ·rfl
end Go.Fw
namespace Go.Fw
open Go
set_option linter.unusedSimpArgs false
set_option linter.unusedVariables false
def txT(t:Typ):List UInt8:=[116,121,112,101,32]++t.name++(bif t.key==[]then[]else[32,107,101,121,32]++t.key)++[10]++t.fields.flatMap lnM
def txM(p:Part):List UInt8:=[112,97,114,116,32]++p.name++[10]++p.types.flatMap txT
structure Wt (t:Typ):Prop where
 name:t.name.length<=8
 key:t.key.length<=8
 fields:t.fields.length<=8
 field:∀f∈t.fields,Ln f
structure Wr (p:Part):Prop where
 name:p.name.length<=8
 types:p.types.length<=5
 type:∀t∈p.types,Wt t
theorem Wt.mk'{t:Typ}(h:KT KK t)(hl:lineM t=true):Wt t:=by
 unfold lineM at hl
 simp only[yhb,Bool.or_eq_true,List.all_eq_true,yhc,yhe]at hl
 refine⟨zeE hl.1,?_,hl.2.2.2.1,fun f hf=>.mk' (h.2.2.2 f hf) (hl.2.2.2.2 f hf)⟩
 rcases hl.2.1 with h1|h1
 ·rw[h1];simp
 ·exact zeE h1
theorem zFY{α:Type}{l:List α}{g:α->List UInt8}{c:Nat}(h:∀x∈l,(g x).length<=c):(l.flatMap g).length<=c*l.length:=by
 induction l with
 | nil=>simp
 | cons x l ih =>
  have h1:=h x (by simp)
  have h2:=ih fun s hs=>h s (by simp[hs])
  simp only[List.flatMap_cons,yhr,yhs]
  rw[Nat.mul_add]
  omega
theorem zrJ{α:Type}{l:List α}{g:α->List UInt8}{i:Nat}(h:i<l.length):(l.take (i+1)).flatMap g=(l.take i).flatMap g++g l[i]:=by
 rw[List.take_succ_eq_append_getElem h,List.flatMap_append]
 simp
theorem zzC{α:Type}{l:List α}{g:α->List UInt8}{c n:Nat}(h:∀x∈l,(g x).length<=c)(hn:l.length<=n)(i:Nat):((l.take i).flatMap g).length<=c*n:=by
 have h1:=zFY (l:=l.take i) (g:=g) fun x hx=>h x (List.mem_of_mem_take hx)
 have h2:(l.take i).length<=n:=Nat.le_trans (by rw[List.length_take];exact Nat.min_le_right _ _) hn
 exact Nat.le_trans h1 (Nat.mul_le_mul_left c h2)
theorem Wt.flen{t:Typ}(h:Wt t)(i:Nat):((t.fields.take i).flatMap lnM).length<=76000000:=zzC (fun f hf=>zvj (h.field f hf)) h.fields i
theorem Wt.len{t:Typ}(h:Wt t):(txT t).length<=76000030:=by
 have h1:=h.flen t.fields.length
 rw[List.take_length]at h1
 have h2:=h.name
 have h3:=h.key
 unfold txT
 cases(t.key==[])<;>simp only[cond_true,cond_false,yhr,yhs,yht]<;>omega
theorem Wr.tlen{p:Part}(h:Wr p)(i:Nat):((p.types.take i).flatMap txT).length<=380000150:=zzC (fun f hf=>(h.type f hf).len) h.types i
theorem zub{p:Part}(h:Wr p):zjF p=some (txM p):=by
 rw[zn3];unfold zjs
 have hn:=h.name
 have ht:=h.types
 rw[big (n:=List.length [112,97,114,116,32]+List.length p.name) (by simp;omega),big (n:=List.length ([112,97,114,116,32]++p.name)+List.length [10]) (by simp;omega)]
 simp only[zag]
 unfold txM
 have l0:([112,97,114,116,32]++p.name++[10]).length<=20:=by simp;omega
 generalize[112,97,114,116,32]++p.name++[10]=z at *
 rw[zeH (s0:=(z,(0:Int))) p.types.length (fun i=>(z++(p.types.take i).flatMap txT,(i:Int))) (z++p.types.flatMap txT,(p.types.length:Int)) (by simp) ?_ ?_]
 ·intro i hi
  have hw:=h.type _ (ygh hi)
  have l1:=h.tlen i
  have h3:=zar hi (up (Nat.le_trans ht (by decide)))
  rw[zrJ hi]
  simp only[zaO hi,zaE,zal hi,zaf,zag,zac]
  generalize p.types[i]=t at *
  have l2:(z++(p.types.take i).flatMap txT).length<=380000200:=by rw[yhr];omega
  rw[<-List.append_assoc]
  generalize z++(p.types.take i).flatMap txT=y at *
  have l3:=hw.name
  have l4:=hw.key
  have l5:=hw.fields
  have l6:=hw.flen
  (rw[zdI];rotate_left;(have:=hBM;simp only[yhr,yhs,yht,List.length_map,yhc,yhb];omega))
  (rw[zdI];rotate_left;(have:=hBM;simp only[yhr,yhs,yht,List.length_map,yhc,yhb];omega))
  have k1:(zab (t.key !=[]) (gd (decide (List.length (y++[116,121,112,101,32]++t.name)+List.length [32,107,101,121,32]<=BIG))
              (gd (decide (List.length (y++[116,121,112,101,32]++t.name++[32,107,101,121,32])+List.length t.key<=BIG))
               (some (y++[116,121,112,101,32]++t.name++[32,107,101,121,32]++t.key))))
             (some (y++[116,121,112,101,32]++t.name)))=some (y++([116,121,112,101,32]++t.name++(bif t.key==[]then[]else[32,107,101,121,32]++t.key))):=by
   (rw[zdI];rotate_left;(have:=hBM;simp only[yhr,yhs,yht,List.length_map,yhc,yhb];omega))
   (rw[zdI];rotate_left;(have:=hBM;simp only[yhr,yhs,yht,List.length_map,yhc,yhb];omega))
   simp only[bne]
   cases(t.key==[])<;>simp[zab]
  rw[k1,zac]
  have l7:(y++([116,121,112,101,32]++t.name++(bif t.key==[]then[]else[32,107,101,121,32]++t.key))).length<=380000250:=by
   cases(t.key==[])<;>simp<;>omega
  have e1:y++txT t=y++([116,121,112,101,32]++t.name++(bif t.key==[]then[]else[32,107,101,121,32]++t.key))++[10]++t.fields.flatMap lnM:=by
   unfold txT
   simp only[List.append_assoc]
  rw[e1]
  generalize y++([116,121,112,101,32]++t.name++(bif t.key==[]then[]else[32,107,101,121,32]++t.key))=u at *
  (rw[zdI];rotate_left;(have:=hBM;simp only[yhr,yhs,yht,List.length_map,yhc,yhb];omega))
  rw[zeH (s0:=(u++[10],(0:Int))) t.fields.length (fun i=>(u++[10]++(t.fields.take i).flatMap lnM,(i:Int))) (u++[10]++t.fields.flatMap lnM,(t.fields.length:Int)) (by simp) ?_ ?_]
  ·rw[h3];rfl
  ·intro j hj
   have h4:=zar hj (up (Nat.le_trans l5 (by decide)))
   have l8:=l6 j
   have l9:=zvj (hw.field _ (ygh hj))
   simp only[zaO hj,zaE,zal hj,zaf,zag,zac,zvG (hw.field _ (ygh hj)),h4]
   (rw[zdI];rotate_left;(have:=hBM;simp only[yhr,yhs,yht,List.length_map,yhc,yhb];omega))
   rw[zrJ hj]
   simp only[List.append_assoc]
   rfl
  ·simp only[zap,zae,List.take_length]
 ·simp only[zap,zae,List.take_length]
theorem zHs(s:List UInt8):(s.map zaF).map znu=s:=by
 rw[List.map_map]
 have:(znu ∘ zaF)=id:=by
  funext c
  show UInt8.ofNat (Int.toNat (c.toNat:Int))=c
  rw[Int.toNat_natCast]
  exact UInt8.ofNat_toNat
 rw[this,List.map_id]
theorem zIB{s:List UInt8}(h:s.length<=9000000000):zcB s=some ((s.length:Int),s.map zaF):=by
 rw[zgM];unfold zcv
 rw[zhZ]
 unfold zff
 rw[zac]
 (rw[zdI];rotate_left;(have:=hBM;simp only[yhr,yhs,yht,List.length_map,yhc,yhb];omega))
theorem zxm{s b:List UInt8}(h0:0<b.length)(h:b.length+s.length<=9000000000):zaq (s,b.map zaF)=some ((s.length:Int),(b++s).map zaF):=by
 rw[zd3];unfold za3;dsimp only
 rw[zeM]
 unfold zcj
 rw[zac,zdI (b:=decide (List.length (b.map zaF)=List.length (b.map zaF))) (by simp)]
 (rw[zdI];rotate_left;(have:=hBM;simp only[yhr,yhs,yht,List.length_map,yhc,yhb];omega))
 rw[List.map_append]
theorem ztI{p:Part}(h:Wr p):zdB p=some (txM p):=by
 rw[zhU];unfold zdv
 have hn:=h.name
 have ht:=h.types
 (rw[zdI];rotate_left;(have:=hBM;simp only[yhr,yhs,yht,List.length_map,yhc,yhb];omega))
 (rw[zdI];rotate_left;(have:=hBM;simp only[yhr,yhs,yht,List.length_map,yhc,yhb];omega))
 unfold txM
 have l0:([112,97,114,116,32]++p.name++[10]).length<=20:=by simp;omega
 have l00:0<([112,97,114,116,32]++p.name++[10]).length:=by simp
 generalize[112,97,114,116,32]++p.name++[10]=z at *
 rw[zIB (by omega),zac]
 rw[zeH (s0:=((0:Int),z.map zaF)) p.types.length (fun i=>((i:Int),(z++(p.types.take i).flatMap txT).map zaF)) ((p.types.length:Int),(z++p.types.flatMap txT).map zaF) (by simp) ?_ ?_]
 ·have hs:zim ((z++p.types.flatMap txT).map zaF)=some (z++p.types.flatMap txT):=by
   rw[zk2]
   unfold zil
   rw[zHs]
   (rw[zdI];rotate_left;(have:=hBM;simp only[yhr,yhs,yht,List.length_map,yhc,yhb];omega))
  rw[hs,zac]
 ·intro i hi
  have hw:=h.type _ (ygh hi)
  have l1:=h.tlen i
  have h3:=zar hi (up (Nat.le_trans ht (by decide)))
  rw[zrJ hi]
  simp only[zaO hi,zaE,zal hi,zaf,zag,zac]
  generalize p.types[i]=t at *
  have l2:(z++(p.types.take i).flatMap txT).length<=380000200:=by rw[yhr];omega
  have l20:0<(z++(p.types.take i).flatMap txT).length:=by rw[yhr];omega
  rw[<-List.append_assoc]
  generalize z++(p.types.take i).flatMap txT=y at *
  have l3:=hw.name
  have l4:=hw.key
  have l5:=hw.fields
  have l6:=hw.flen
  (rw[zdI];rotate_left;(have:=hBM;simp only[yhr,yhs,yht,List.length_map,yhc,yhb];omega))
  rw[zxm l20 (by(have:=hBM;simp only[yhr,yhs,yht,List.length_map,yhc,yhb];omega)),zac]
  have l21:(y++([116,121,112,101,32]++t.name)).length<=380000220:=by(have:=hBM;simp only[yhr,yhs,yht,List.length_map,yhc,yhb];omega)
  have l22:0<(y++([116,121,112,101,32]++t.name)).length:=by(have:=hBM;simp only[yhr,yhs,yht,List.length_map,yhc,yhb];omega)
  have e0:y++([116,121,112,101,32]++t.name++(bif t.key==[]then[]else[32,107,101,121,32]++t.key))=(y++([116,121,112,101,32]++t.name))++(bif t.key==[]then[]else[32,107,101,121,32]++t.key):=by simp only[List.append_assoc]
  have e1:y++txT t=y++([116,121,112,101,32]++t.name++(bif t.key==[]then[]else[32,107,101,121,32]++t.key))++[10]++t.fields.flatMap lnM:=by
   unfold txT
   simp only[List.append_assoc]
  rw[e1,e0]
  generalize y++([116,121,112,101,32]++t.name)=v at *
  have k1:(zab (t.key !=[])
              (gd (decide (List.length [32,107,101,121,32]+List.length t.key<=BIG))
               (zaa (zaq ([32,107,101,121,32]++t.key,v.map zaF)) fun(x:Int×List Int)=>some x.snd))
              (some (v.map zaF)))=some ((v++(bif t.key==[]then[]else[32,107,101,121,32]++t.key)).map zaF):=by
   (rw[zdI];rotate_left;(have:=hBM;simp only[yhr,yhs,yht,List.length_map,yhc,yhb];omega))
   rw[zxm l22 (by(have:=hBM;simp only[yhr,yhs,yht,List.length_map,yhc,yhb];omega)),zac]
   simp only[bne]
   cases(t.key==[])<;>simp[zab]
  rw[k1,zac]
  have l7:(v++(bif t.key==[]then[]else[32,107,101,121,32]++t.key)).length<=380000250:=by
   cases(t.key==[])<;>simp<;>omega
  have l8:0<(v++(bif t.key==[]then[]else[32,107,101,121,32]++t.key)).length:=by rw[yhr];omega
  generalize v++(bif t.key==[]then[]else[32,107,101,121,32]++t.key)=u at *
  rw[zxm l8 (by(have:=hBM;simp only[yhr,yhs,yht,List.length_map,yhc,yhb];omega)),zac]
  dsimp only
  rw[zeH (s0:=((0:Int),List.map zaF (u++[(10:UInt8)]))) t.fields.length (fun i=>((i:Int),List.map zaF (u++[(10:UInt8)]++(t.fields.take i).flatMap lnM))) ((t.fields.length:Int),List.map zaF (u++[(10:UInt8)]++t.fields.flatMap lnM)) (by simp) ?_ ?_]
  ·rw[h3];rfl
  ·intro j hj
   have h4:=zar hj (up (Nat.le_trans l5 (by decide)))
   have l8:=l6 j
   have l9:=zvj (hw.field _ (ygh hj))
   simp only[zaO hj,zaE,zal hj,zaf,zag,zac,zu3 (hw.field _ (ygh hj)),h4]
   rw[zxm (by(have:=hBM;simp only[yhr,yhs,yht,List.length_map,yhc,yhb];omega)) (by(have:=hBM;simp only[yhr,yhs,yht,List.length_map,yhc,yhb];omega)),zac,zrJ hj]
   simp only[List.append_assoc]
   rfl
  ·simp only[zap,zae,List.take_length]
 ·simp only[zap,zae,List.take_length]
end Go.Fw
namespace Go.Fw
open Go
set_option linter.unusedSimpArgs false
set_option linter.unusedVariables false
theorem zHv{α:Type}(l:List α):((l.length:Int)==0)= !decide (0<l.length):=zDd _
theorem zt9{p:Part}{i:Nat}(hp:KP KK p)(hi:i<p.types.length):zjD (p,(i:Int))=some (zdJ p i p.types[i]):=by
 rw[zn0];unfold zjp;dsimp only
 have ht:=hp.2.2 _ (ygh hi)
 have hT:=up ht.2.2.1
 have hP:=up hp.2.1
 simp only[zaE,zal hi,zag,zac,zfd (up ht.1),zfd (up ht.2.1),zHv,zDc]
 generalize hgt:p.types[i]=t at *
 have k1:(zab (!nameM t.name) (some true) (zab (t.key !=[]) (zab (!nameM t.key) (some true) (zab (!decide (0<t.fields.length)) (some true) (some !decide (t.fields.length<=8)))) (zab (!decide (0<t.fields.length)) (some true) (some !decide (t.fields.length<=8)))))
   =some (!(nameM t.name&&((t.key==[] ||nameM t.key)&&(decide (0<t.fields.length)&&decide (t.fields.length<=8))))):=by
  simp only[bne]
  cases nameM t.name<;>cases(t.key==[])<;>cases nameM t.key<;>cases decide (0<t.fields.length)<;>cases decide (t.fields.length<=8)<;>rfl
 rw[k1,zac]
 have k2:lineM t=((nameM t.name&&((t.key==[] ||nameM t.key)&&(decide (0<t.fields.length)&&decide (t.fields.length<=8))))&&t.fields.all zpK):=by
  unfold lineM
  simp only[Bool.and_assoc]
 unfold zdJ
 rw[k2]
 cases(nameM t.name&&((t.key==[] ||nameM t.key)&&(decide (0<t.fields.length)&&decide (t.fields.length<=8))))with
 | false=>rfl
 | true =>
  simp only[Bool.not_true,zae,Bool.true_and]
  rw[zdK (s0:=(0:Int)) t.fields (fun i=>(i:Int)) (t.fields.length:Int) (fun _ f=>bif zpK f then none else some 1) rfl ?_ ?_]
  ·rw[zdo,zf5]
   cases t.fields.all zpK with
   | false=>rfl
   | true =>
    simp only[cond_true,zat,zg3 hP,zac,bne,Bool.not_true,cond_false]
    cases(ixM (fun u:Typ=>u.name==t.name) p.types==(i:Int))with
    | false=>rfl
    | true =>
     simp only[Bool.not_true,zae,cond_false]
     rw[zdK (s0:=(0:Int)) t.fields (fun i=>(i:Int)) (t.fields.length:Int) (fun i f=>bif (ixM (fun g:Field=>g.name==f.name) t.fields==(i:Int))then none else some 2) rfl ?_ ?_]
     ·rw[zdo]
      show _=some (bif !zyt t then _ else _)
      unfold zyt
      cases zqW (fun i f=>ixM (fun g:Field=>g.name==f.name) t.fields==(i:Int)) 0 t.fields with
      | false=>rfl
      | true =>
       simp only[cond_true,Bool.not_true,cond_false]
       rw[zdK (s0:=(0:Int)) t.fields (fun i=>(i:Int)) (t.fields.length:Int) (fun _ f=>bif knownM p f then none else some 3) rfl ?_ ?_]
       ·rw[zdo,zf5]
        cases t.fields.all (knownM p)with
        | false=>rfl
        | true =>
         simp only[cond_true,Bool.not_true,cond_false,zyc hT,zac]
         cases zDN t with
         | false=>rfl
         | true =>
          simp only[Bool.not_true,zae,cond_false]
          rw[zdK (s0:=(0:Int)) t.fields (fun i=>(i:Int)) (t.fields.length:Int) (fun _ f=>bif zlk t f then none else some 5) rfl ?_ ?_]
          ·rw[zdo,zf5]
           cases t.fields.all (zlk t)<;>rfl
          ·intro j hj
           have h3:=zar hj hT
           have hf:=ht.2.2.2 _ (ygh hj)
           simp only[zaO hj,zaE,zal hj,zaf,zag,zac,h3,zua hT (up hf.2.2.1)]
           generalize t.fields[j]=f
           unfold zlk
           cases zx1 t f<;>cases f.far<;>cases f.shared<;>rfl
          ·simp only[zap,zae]
       ·intro j hj
        have h3:=zar hj hT
        simp only[zaO hj,zaE,zal hj,zaf,zag,zac,h3,zvC,zg3 hP,zF7,<-zxk]
        generalize t.fields[j]=f
        unfold knownM
        cases zvB f.of<;>cases(tyM p f.of).isSome<;>rfl
       ·simp only[zap,zae]
     ·intro j hj
      have h3:=zar hj hT
      simp only[zaO hj,zaE,zal hj,zaf,zag,zac,h3,zfJ hT]
      cases(ixM (fun g:Field=>g.name==t.fields[j].name) t.fields==(j:Int))<;>rfl
     ·simp only[zap,zae]
  ·intro j hj
   have h3:=zar hj hT
   have hf:=ht.2.2.2 _ (ygh hj)
   simp only[zaO hj,zaE,zal hj,zaf,zag,zac,h3,zfd (up hf.1),zfd (up hf.2.1),zvC]
   generalize t.fields[j]=f at *
   unfold zpK
   have k3:(zab (!nameM f.name) (some true) (zab (!zvB f.of) (some !nameM f.of) (some false)))=some (!(nameM f.name&&(zvB f.of ||nameM f.of))):=by
    cases nameM f.name<;>cases zvB f.of<;>cases nameM f.of<;>rfl
   rw[k3,zac,<-Bool.and_assoc]
   cases(nameM f.name&&(zvB f.of ||nameM f.of))with
   | false=>rfl
   | true =>
    simp only[Bool.not_true,zae,Bool.true_and]
    rw[zdK (s0:=(0:Int)) f.needs (fun i=>(i:Int)) (f.needs.length:Int) (fun _ s=>bif nameM s then none else some (Sum.inr (Sum.inr 1))) rfl ?_ ?_]
    ·rw[zdo,zf5]
     cases f.needs.all nameM<;>rfl
    ·intro k hk
     have h4:=zar hk (up hf.2.2.1)
     simp only[zaO hk,zaE,zal hk,zaf,zag,zac,h4,zfd (up (hf.2.2.2 _ (ygh hk)))]
     cases nameM f.needs[k]<;>rfl
    ·simp only[zap,zae]
  ·simp only[zap,zae]
theorem zod(p:Part)(i:Nat)(t:Typ):0<=zdJ p i t/\zdJ p i t<=5/\(zdJ p i t=0->lineM t=true):=by
 unfold zdJ
 cases lineM t<;>cases(ixM (fun u:Typ=>u.name==t.name) p.types==(i:Int))<;>cases zyt t<;>cases t.fields.all (knownM p)<;>cases zDN t<;>cases t.fields.all (zlk t)<;>simp
def pcF(p:Part)(i:Nat)(t:Typ):Option PFault:=bif !(zdJ p i t==0)then some ⟨(i:Int)+1,zdJ p i t⟩else bif t.fields.any isQ then some ⟨(i:Int)+1,7⟩else none
def noRoot(p:Part):Bool:=match p.types with
 | []=>true
 | t:: _=>t.name !=[113,117,101,114,121] ||t.key !=[]
def pcM(p:Part):PFault:=
 bif decide (5<p.types.length)then⟨6,6⟩else bif !nameM p.name then⟨0,1⟩else bif noRoot p then⟨0,7⟩else
 match fsI (pcF p) 0 p.types with
 | some r=>r
 | none=>bif decide (1500<(txM p).length)then⟨0,6⟩else⟨0,0⟩
theorem zhi{α Z:Type}{f:Nat->α->Option Z}{xs:List α}{i:Nat}(h:fsI f i xs=none):∀(j:Nat)(hj:j<xs.length),f (i+j) xs[j]=none:=by
 induction xs generalizing i with
 | nil=>intro j hj;simp at hj
 | cons x xs ih =>
  simp only[fsI]at h
  cases hx:f i x with
  | some r=>rw[hx]at h;cases h
  | none =>
   rw[hx]at h
   intro j hj
   cases j with
   | zero=>exact hx
   | succ j =>
    have:=ih h j (by simpa using hj)
    rw[Nat.add_assoc,Nat.add_comm 1 j]at this
    exact this
theorem zCN{p:Part}(hp:KP KK p)(h5:p.types.length<=5)(hn:nameM p.name=true)(h:fsI (pcF p) 0 p.types=none):Wr p:=by
 refine⟨zeE hn,h5,fun t ht=>?_⟩
 obtain⟨j,hj,rfl⟩:=List.getElem_of_mem ht
 have:=zhi h j hj
 unfold pcF at this
 refine .mk' (hp.2.2 _ ht) ((zod p (0+j) p.types[j]).2.2 ?_)
 cases hz:(zdJ p (0+j) p.types[j]==0)with
 | true=>simpa using hz
 | false=>rw[hz]at this;cases this
theorem zqY(n m:Nat):decide ((n:Int)>(m:Int))=decide (m<n):=by
 by_cases h:m<n
 ·simp[h]
 ·simp[h]
theorem ztY(p:Part):(zab ((↑(List.length p.types):Int)==0) (some true) (zaa p.types[Int.toNat 0]? fun(x:Typ)=>zab (x.name !=[113,117,101,114,121]) (some true) (zaa p.types[Int.toNat 0]? fun(x:Typ)=>some (x.key !=[]))))=some (noRoot p):=by
 unfold noRoot
 cases h:p.types with
 | nil=>rfl
 | cons t ts =>
  rw[zGc]
  simp only[yhs,Nat.zero_lt_succ,decide_true,Bool.not_true,zae,Int.toNat_zero,List.getElem?_cons_zero,zac]
  cases(t.name !=[113,117,101,114,121])<;>rfl
theorem zop{p:Part}(hp:KP KK p):zeO p=some (pcM p):=by
 rw[zkY];unfold zgq
 rw[show((5:Int))=((5:Nat):Int)from rfl,zqY]
 unfold pcM
 cases h5:decide (5<p.types.length)with
 | true=>rfl
 | false =>
  have h5':p.types.length<=5:=by simpa using h5
  rw[zae,zfd (up hp.1),zac,ztY]
  cases hn:nameM p.name with
  | false=>rfl
  | true =>
   simp only[Bool.not_true,zae,zac,cond_false]
   cases noRoot p with
   | true=>rfl
   | false =>
    simp only[zae,cond_false]
    rw[zdK (s0:=((0:Int),(0:Int),(0:Int))) p.types (fun i=>((i:Int),(0:Int),(0:Int))) ((p.types.length:Int),(0:Int),(0:Int)) (pcF p) rfl ?_ ?_]
    ·cases hf:fsI (pcF p) 0 p.types with
     | some r=>rfl
     | none =>
      simp only[zat]
      rw[zub (zCN hp h5' hn hf),zac,show((1500:Int))=((1500:Nat):Int)from rfl,zqY]
      cases decide (1500<(txM p).length)<;>rfl
    ·intro i hi
     have h3:=zar hi (up hp.2.1)
     have ht:=hp.2.2 _ (ygh hi)
     simp only[zaO hi,zaf,zt9 hp hi,zac,h3,zag,bne]
     unfold pcF
     cases(zdJ p i p.types[i]==0)with
     | false=>rfl
     | true =>
      simp only[Bool.not_true,zae,cond_false]
      rw[zdK (s0:=((0:Int),(0:Int),(0:Int))) p.types[i].fields (fun i=>((i:Int),(0:Int),(0:Int))) ((p.types[i].fields.length:Int),(0:Int),(0:Int)) (fun _ f=>bif !isQ f then none else some (Sum.inr (Sum.inr ⟨(i:Int)+1,7⟩))) rfl ?_ ?_]
      ·rw[zdo,zf5]
       have:p.types[i].fields.all (fun f=>!isQ f)= !p.types[i].fields.any isQ:=by
        rw[List.all_eq_not_any_not]
        simp
       rw[this]
       cases p.types[i].fields.any isQ<;>rfl
      ·intro j hj
       have h4:=zar hj (up ht.2.2.1)
       simp only[zaE,zal hi,zaO hj,zal hj,zaf,zag,zac,h4]
       unfold isQ
       cases(p.types[i].fields[j].of==[113,117,101,114,121])<;>rfl
      ·simp only[zaE,zal hi,zap,zae,zag,zac]
    ·simp only[zap,zae]
theorem ztH{p:Part}(hp:KP KK p):zek p=some (pcM p):=by
 rw[ziV];unfold zd7
 rw[show((5:Int))=((5:Nat):Int)from rfl,zqY]
 unfold pcM
 cases h5:decide (5<p.types.length)with
 | true=>rfl
 | false =>
  have h5':p.types.length<=5:=by simpa using h5
  rw[zae,ze5 (up hp.1),zac,ztY]
  cases hn:nameM p.name with
  | false=>rfl
  | true =>
   simp only[Bool.not_true,zae,zac,cond_false]
   cases noRoot p with
   | true=>rfl
   | false =>
    simp only[zae,cond_false]
    rw[zdK (s0:=((0:Int),(0:Int),(0:Int))) p.types (fun i=>((i:Int),(0:Int),(0:Int))) ((p.types.length:Int),(0:Int),(0:Int)) (pcF p) rfl ?_ ?_]
    ·cases hf:fsI (pcF p) 0 p.types with
     | some r=>rfl
     | none =>
      simp only[zat]
      rw[ztI (zCN hp h5' hn hf),zac,show((1500:Int))=((1500:Nat):Int)from rfl,zqY]
      cases decide (1500<(txM p).length)<;>rfl
    ·intro i hi
     have h3:=zar hi (up hp.2.1)
     have hc:=zod p i p.types[i]
     simp only[zaO hi,zaf,zud hp hi,zac,h3,zag]
     unfold pcF
     cases hz:(zdJ p i p.types[i]==0)with
     | false =>
      have hz':¬zdJ p i p.types[i]=0:=by simpa using hz
      have:decide (zdJ p i p.types[i]>0)=true:=by simp;omega
      simp only[Bool.not_false,cond_true,this,zaf]
     | true =>
      simp only[Bool.not_true,cond_false]
      cases p.types[i].fields.any isQ<;>rfl
    ·simp only[zap,zae]
def okP(p:Part):Bool:=(pcM p).code==0
theorem zEc(p:Part):((pcM p).pos==0&&((pcM p).code==0&&true))=okP p:=by
 unfold okP
 cases hc:((pcM p).code==0)with
 | false=>simp
 | true =>
  have hc':(pcM p).code=0:=by simpa using hc
  have:(pcM p).pos=0:=by
   unfold pcM at hc'|-
   cases h1:decide (5<p.types.length)with
   | true=>rw[h1]at hc';cases hc'
   | false =>
    rw[h1]at hc'
    simp only[cond_false]at hc'|-
    cases h2:nameM p.name with
    | false=>rfl
    | true =>
     rw[h2]at hc'
     simp only[Bool.not_true,cond_false]at hc'|-
     cases h3:noRoot p with
     | true=>rfl
     | false =>
      rw[h3]at hc'
      simp only[cond_false]at hc'|-
      cases h4:fsI (pcF p) 0 p.types with
      | none=>cases decide (1500<(txM p).length)<;>rfl
      | some r =>
       rw[h4]at hc'
       exfalso
       have hr:∀(xs:List Typ)(i:Nat)(r:PFault),fsI (pcF p) i xs=some r->r.code≠0:=by
        intro xs
        induction xs with
        | nil=>intro i r h;cases h
        | cons x xs ih =>
         intro i r h
         simp only[fsI]at h
         cases hx:pcF p i x with
         | none=>rw[hx]at h;exact ih _ _ h
         | some r' =>
          rw[hx]at h
          cases h
          unfold pcF at hx
          cases hz:(zdJ p i x==0)with
          | false=>rw[hz]at hx;cases hx;simpa using hz
          | true =>
           rw[hz]at hx
           simp only[Bool.not_true,cond_false]at hx
           cases hq:x.fields.any isQ with
           | true=>rw[hq]at hx;cases hx;simp
           | false=>rw[hq]at hx;cases hx
       exact hr _ _ _ h4 hc'
  simp[this]
theorem zt2{p:Part}(hp:KP KK p):zgg p=some (okP p):=by
 rw[zmb];unfold zhF
 rw[ztH hp,zac,zEc]
end Go.Fw
