/- A part of the proof: what stands for the program, its functions, and what they come to. -/
import Derived.Shelf.Strings.Builder1
import Derived.Lib.UnsafeStr
import Derived.Shelf.Slices.Clone
import Derived.Shelf.Strings.OnBuilder
import Derived.Test.YtokndaldhjmdeaaGreatProg
import Derived.KernelRfl
import Derived.Test.YtokndaldhjmdeaaGreatM4
import Derived.Test.YtokndaldhjmdeaaGreatM5
set_option linter.all false
/- What (*strings.Builder).String does to the memory, in full. -/
namespace Go.Proofs
open Go.Shelf Go.RowKit
variable {P : Program} {ρ : Ren}

set_option maxHeartbeats 1000000 in
set_option maxRecDepth 100000 in
theorem Any.String_exact (L : Lays.n169 P ρ) (X : Builder.Extra P ρ) (b g cap : Nat) (l : List UInt8) (cur : Array Value) (w : World) (hb : w.heap[b]? = some (.cells #[.pointer (some ⟨b, 0, none⟩), .slice (some ⟨g, 0, none⟩) l.length cap] (ρ.t 72) (0, 0)))
    (hg : w.heap[g]? = some (.cells cur (ρ.t 5) (0, 0))) (h0 : l ≠ []) (hc : l.length ≤ cap) (hcur : cap ≤ cur.size) (h63 : l.length ≤ 9223372036854775807) (hcell : ∀ (j : Nat) (hj : j < l.length), cur[j]? = some (.int .u8 l[j].toNat)) :
    Calls P (ρ.f 169) #[.pointer (some ⟨b, 0, none⟩)] w fun e w' => e = .returned (.string ⟨l.toArray⟩) ∧ w' = w.drew.freeze ⟨g, 0, none⟩ l.length := by
  have hl : 0 < l.length := List.length_pos_iff.2 h0
  have hbd : w.drew.heap[b]? = some (.cells #[.pointer (some ⟨b, 0, none⟩), .slice (some ⟨g, 0, none⟩) l.length cap] (ρ.t 72) (0, 0)) := hb
  have hgd : w.drew.heap[g]? = some (.cells cur (ρ.t 5) (0, 0)) := hg
  have c1 : w.drew.cell? ⟨b, 1, none⟩ = some (.slice (some ⟨g, 0, none⟩) l.length cap) := by rw [Lib.cell_of_heap hbd]; rfl
  have hSD : (Builtin.unsafeSliceData_ #[(ρ.t 37)] (ρ.t 127) #[.slice (some ⟨g, 0, none⟩) l.length cap]).run P w.drew = .ok (.pointer (some ⟨g, 0, none⟩)) w.drew :=
    Lib.run_unsafeSliceData_row _ _ _ _ _ _ (by omega)
  have hUS : (Builtin.unsafeString_ #[(ρ.t 127), (ρ.t 3)] (ρ.t 9) #[.pointer (some ⟨g, 0, none⟩), .int .i64 l.length]).run P w.drew = .ok (.string ⟨l.toArray⟩) (w.drew.freeze ⟨g, 0, none⟩ l.length) :=
    Lib.run_unsafeString_row w.drew (ρ.t 127) (ρ.t 3) (ρ.t 9) (ρ.t 5) L.t127 X.cellsByte g cur.size (by simp [World.shape?, hgd]) l h0 (by omega) h63 fun j x hx => by
      obtain ⟨hj, rfl⟩ := List.getElem?_eq_some_iff.1 hx
      rw [show (⟨g, 0, none⟩ : Addr).add j = ⟨g, 0 + j, none⟩ by unfold Addr.add; split <;> simp_all]
      have := hcell j hj
      simp only [World.cell?, hgd]
      simpa using this
  have mixed := L.mixed
  have t72 := L.t72; have a72 := L.a72; have z72 := L.z72; have v72 := L.v72; have u72 := run_underlying L.t72
  have t70 := L.t70; have a70 := L.a70; have z70 := L.z70; have v70 := L.v70; have u70 := run_underlying L.t70
  have t37 := L.t37; have a37 := L.a37; have z37 := L.z37; have v37 := L.v37; have u37 := run_underlying L.t37
  have t127 := L.t127; have a127 := L.a127; have z127 := L.z127; have v127 := L.v127; have u127 := run_underlying L.t127
  have t3 := L.t3; have a3 := L.a3; have z3 := L.z3; have v3 := L.v3; have u3 := run_underlying L.t3
  have t9 := L.t9; have a9 := L.a9; have z9 := L.z9; have v9 := L.v9; have u9 := run_underlying L.t9
  have t5 := X.t5; have a5 := X.a5; have z5 := X.z5; have v5 := X.v5; have u5 := run_underlying X.t5
  go_enter L.f169, Body.n169_ntmps ρ
  go_wp2
  go_region_o
  all_goals (go_wp2; go_ret; exact ⟨rfl, rfl⟩)

theorem froze_all (w : World) (g n : Nat) : (w.drew.freeze ⟨g, 0, none⟩ n).os = w.os ∧ (w.drew.freeze ⟨g, 0, none⟩ n).tape = w.tape ∧ (w.drew.freeze ⟨g, 0, none⟩ n).output = w.output ∧ w.heap.size ≤ (w.drew.freeze ⟨g, 0, none⟩ n).heap.size ∧ ∀ k, k ≠ g → k < w.heap.size → (w.drew.freeze ⟨g, 0, none⟩ n).heap[k]? = w.heap[k]? := by
  unfold World.freeze World.drew
  split
  · exact ⟨rfl, rfl, rfl, Nat.le_refl _, fun _ _ _ => rfl⟩
  · refine ⟨rfl, rfl, rfl, by simp, fun k hk _ => ?_⟩
    simp [Array.getElem?_modify, Ne.symm hk]
theorem Any.clone_strs (L : Lays2.n16 P ρ) (b o n c : Nat) (xs : List (List UInt8)) (w : World) (hn : n = xs.length) (hb : n * 16 ≤ 140737488355328) (hc : ∀ (j : Nat) (hj : j < xs.length), w.cell? ⟨b, o + j, none⟩ = some (.string ⟨xs[j].toArray⟩)) :
    Calls P (ρ.f 16) #[.slice (some ⟨b, o, none⟩) n c] w fun e w' => ∃ v', e = .returned v' ∧ w'.ownsRow w.heap.size (ρ.t 9) 1 v' n (xs.map fun x => Value.string ⟨x.toArray⟩) ∧ v' ≠ .slice none 0 0 ∧ Below w.heap.size w w' := by
  subst hn
  have := Any.slices_Clone_string L b o xs.length c (xs.map fun s => ⟨s.toArray⟩) w (by simp) hb (fun j hj => by
    have hj' : j < xs.length := by simpa using hj
    rw [hc j hj']
    simp [hj'])
  rw [List.take_of_length_le (by simp), List.map_map] at this
  exact this
theorem Any.clone_ints (L : Lays2.n15 P ρ) (b o n c : Nat) (xs : List Int) (w : World) (hn : n = xs.length) (hb : n * 8 ≤ 140737488355328) (hc : ∀ (j : Nat) (hj : j < xs.length), w.cell? ⟨b, o + j, none⟩ = some (.int .i64 xs[j])) :
    Calls P (ρ.f 15) #[.slice (some ⟨b, o, none⟩) n c] w fun e w' => ∃ v', e = .returned v' ∧ w'.ownsRow w.heap.size (ρ.t 3) 1 v' n (xs.map (Value.int .i64)) ∧ v' ≠ .slice none 0 0 ∧ Below w.heap.size w w' := by
  subst hn
  have := Any.slices_Clone_int L b o xs.length c xs w (Nat.le_refl _) hb (fun j hj => by
    rw [hc j hj]
    simp [hj])
  rw [List.take_length] at this
  exact this
end Go.Proofs
/- The library's functions of this program: their texts and types, as the shelf's contracts want them. -/
namespace Go.Proofs
open Go.Shelf Go.RowKit
set_option maxRecDepth 100000
def Tryz.lays156_ren : Go.Shelf.Ren := ⟨fun | 156 => 26 | 165 => 50 | 166 => 51 | 169 => 52 | 240 => 85 | 241 => 86 | 276 => 115 | 277 => 116 | n => n, fun | 31 => 26 | 9 => 9 | 3 => 3 | 4 => 4 | 0 => 0 | 20 => 20 | 72 => 90 | 76 => 94 | 70 => 88 | 37 => 22 | 75 => 93 | 127 => 135 | 164 => 161 | 5 => 5 | 80 => 96 | n => n, fun | n => n⟩
theorem Tryz.lays156 : Go.Proofs.Lays.n156 Tryz.prog Tryz.lays156_ren := {
  mixed := by kernel_rfl
  f156 := Tryz.func26.trans (congrArg some (by kernel_rfl))
  f165 := Tryz.func50.trans (congrArg some (by kernel_rfl))
  f166 := Tryz.func51.trans (congrArg some (by kernel_rfl))
  f169 := Tryz.func52.trans (congrArg some (by kernel_rfl))
  f240 := Tryz.func85.trans (congrArg some (by kernel_rfl))
  f241 := Tryz.func86.trans (congrArg some (by kernel_rfl))
  f276 := Tryz.func115.trans (congrArg some (by kernel_rfl))
  f277 := Tryz.func116.trans (congrArg some (by kernel_rfl))
  t0 := Tryz.underlying0
  a0 := Tryz.isAgg0
  z0 := Tryz.sizeOf0
  v0 := Tryz.zeroValue0
  t3 := Tryz.underlying3
  a3 := Tryz.isAgg3
  z3 := Tryz.sizeOf3
  v3 := Tryz.zeroValue3
  t4 := Tryz.underlying4
  a4 := Tryz.isAgg4
  z4 := Tryz.sizeOf4
  v4 := Tryz.zeroValue4
  t9 := Tryz.underlying9
  a9 := Tryz.isAgg9
  z9 := Tryz.sizeOf9
  v9 := Tryz.zeroValue9
  t20 := Tryz.underlying20
  a20 := Tryz.isAgg20
  z20 := Tryz.sizeOf20
  v20 := Tryz.zeroValue20
  t31 := Tryz.underlying26
  a31 := Tryz.isAgg26
  z31 := Tryz.sizeOf26
  v31 := Tryz.zeroValue26
  t37 := Tryz.underlying22
  a37 := Tryz.isAgg22
  z37 := Tryz.sizeOf22
  v37 := Tryz.zeroValue22
  t70 := Tryz.underlying88
  a70 := Tryz.isAgg88
  z70 := Tryz.sizeOf88
  v70 := Tryz.zeroValue88
  t72 := Tryz.underlying90
  a72 := Tryz.isAgg90
  z72 := Tryz.sizeOf90
  v72 := Tryz.zeroValue90
  t75 := Tryz.underlying93
  a75 := Tryz.isAgg93
  z75 := Tryz.sizeOf93
  v75 := Tryz.zeroValue93
  t76 := Tryz.underlying94
  a76 := Tryz.isAgg94
  z76 := Tryz.sizeOf94
  v76 := Tryz.zeroValue94
  t127 := Tryz.underlying135
  a127 := Tryz.isAgg135
  z127 := Tryz.sizeOf135
  v127 := Tryz.zeroValue135
  t164 := Tryz.underlying161
  a164 := Tryz.isAgg161
  z164 := Tryz.sizeOf161
  v164 := Tryz.zeroValue161 }
theorem Tryz.Builder_Extra_156 : Builder.Extra Tryz.prog Tryz.lays156_ren := {
  sizeBuilder := by kernel_rfl
  liesBuilder := by kernel_rfl
  t5 := Tryz.underlying5
  a5 := Tryz.isAgg5
  z5 := Tryz.sizeOf5
  v5 := Tryz.zeroValue5
  infoByte := by kernel_rfl
  cellsByte := by kernel_rfl
  sizeByte := by kernel_rfl
  neB5 := by decide }
def Tryz.laysNm215_ren : Go.Shelf.Ren := ⟨fun | 15 => 49 | n => n, fun | 22 => 51 | 3 => 3 | 4 => 4 | n => n, fun | n => n⟩
theorem Tryz.laysNm215 : Go.Proofs.Lays2.n15 Tryz.prog Tryz.laysNm215_ren := {
  mixed := by kernel_rfl
  f15 := Tryz.func49.trans (congrArg some (by kernel_rfl))
  t3 := Tryz.underlying3
  a3 := Tryz.isAgg3
  z3 := Tryz.sizeOf3
  v3 := Tryz.zeroValue3
  t4 := Tryz.underlying4
  a4 := Tryz.isAgg4
  z4 := Tryz.sizeOf4
  v4 := Tryz.zeroValue4
  t22 := Tryz.underlying51
  a22 := Tryz.isAgg51
  z22 := Tryz.sizeOf51
  v22 := Tryz.zeroValue51
  i3 := by kernel_rfl }
def Tryz.laysNm216_ren : Go.Shelf.Ren := ⟨fun | 16 => 71 | n => n, fun | 24 => 26 | 9 => 9 | 4 => 4 | n => n, fun | n => n⟩
theorem Tryz.laysNm216 : Go.Proofs.Lays2.n16 Tryz.prog Tryz.laysNm216_ren := {
  mixed := by kernel_rfl
  f16 := Tryz.func71.trans (congrArg some (by kernel_rfl))
  t4 := Tryz.underlying4
  a4 := Tryz.isAgg4
  z4 := Tryz.sizeOf4
  v4 := Tryz.zeroValue4
  t9 := Tryz.underlying9
  a9 := Tryz.isAgg9
  z9 := Tryz.sizeOf9
  v9 := Tryz.zeroValue9
  t24 := Tryz.underlying26
  a24 := Tryz.isAgg26
  z24 := Tryz.sizeOf26
  v24 := Tryz.zeroValue26
  i9 := by kernel_rfl }
end Go.Proofs
namespace Go.Fw
open Go Go.Proofs
set_option linter.unusedVariables false
noncomputable def zcK(d:List (List UInt8)×List UInt8):Option (List UInt8):=zzi d
noncomputable def zaN:List (List UInt8)×List UInt8->Option (List UInt8):=zaj zcK
theorem zdU(d:List (List UInt8)×List UInt8):zaN d=zcK d:=congrFun (zad zcK) d
noncomputable def zgQ:TE:=⟨26,[.lst .str,.str],[],.str,[],zaN⟩
theorem zko:EOk Tryz.prog zgQ:=zDV zdU Tryz.call26 (fun bk o c xs sep w h1 h2 h3 h4 h5=>Any.strings_Join Tryz.lays156 Tryz.Builder_Extra_156 bk o c xs sep w h1 h2 h3 h4 h5) (fun a c sep w=>Any.strings_Join_none Tryz.lays156 Tryz.Builder_Extra_156 a c sep w)
noncomputable def zaG(d:List (List UInt8)):Option (List (List UInt8)):=gd (decide (d.length*16<=140737488355328)) (some d)
noncomputable def zaJ:List (List UInt8)->Option (List (List UInt8)):=zaj zaG
theorem zbr(d:List (List UInt8)):zaJ d=zaG d:=congrFun (zad zaG) d
noncomputable def zbZ:TE:=⟨71,[.lst .str],[],(.lst .str),[],zaJ⟩
theorem zfx:EOk Tryz.prog zbZ:=zs2 (sz:=16) rfl zbr fun xs hx=>zqL (av:=fun x=>AV.str x) (mk:=fun(x:List UInt8)=>Value.string ⟨x.toArray⟩) (ty:=Tryz.laysNm216_ren.t 9) (sz:=16) zvt (fun _=>rfl) Tryz.call71 (fun b o n c xs w hn hb hc=>Any.clone_strs Tryz.laysNm216 b o n c xs w hn hb hc) (fun n c w=>Any.slices_Clone_string_nil Tryz.laysNm216 n c w) (fun a c w=>Any.slices_Clone_string_zero Tryz.laysNm216 a c w) xs hx (by decide)
noncomputable def za0(d:List Int):Option (List Int):=gd (decide (d.length*8<=140737488355328)) (some d)
noncomputable def zbR:List Int->Option (List Int):=zaj za0
theorem zcN(d:List Int):zbR d=za0 d:=congrFun (zad za0) d
noncomputable def zdR:TE:=⟨49,[.lst (.int .i64)],[],(.lst (.int .i64)),[],zbR⟩
theorem ziu:EOk Tryz.prog zdR:=zs2 (sz:=8) rfl zcN fun xs hx=>zqL (av:=fun x=>AV.int .i64 x) (mk:=fun(x:Int)=>Value.int .i64 x) (ty:=Tryz.laysNm215_ren.t 3) (sz:=8) zDN (fun _=>rfl) Tryz.call49 (fun b o n c xs w hn hb hc=>Any.clone_ints Tryz.laysNm215 b o n c xs w hn hb hc) (fun n c w=>Any.slices_Clone_int_nil Tryz.laysNm215 n c w) (fun a c w=>Any.slices_Clone_int_zero Tryz.laysNm215 a c w) xs hx (by decide)
noncomputable def zek(d:Unit):Option (Unit):=some d
noncomputable def zgH:Unit->Option (Unit):=zaj zek
theorem zg8(d:Unit):zgH d=zek d:=congrFun (zad zek) d
noncomputable def zkh:TE:=⟨85,[.mpb 0 0],[.box bdB [.nilp,.e0]],(.tup []),[.box bdB [.mpb 0 0,.e0]],zgH⟩
theorem zqh:EOk Tryz.prog zkh:=zyD (fun d=>by rw[zg8];rfl) (zuu Tryz.call85 fun b w h1 h2 h3=>Any.Builder_copyCheck_fresh {Tryz.lays156 with} Tryz.Builder_Extra_156.toX72 b w h1 h2 h3)
noncomputable def zbC(d:List Int):Option (List Int):=some d
noncomputable def zdb:List Int->Option (List Int):=zaj zbC
theorem zdQ(d:List Int):zdb d=zbC d:=congrFun (zad zbC) d
noncomputable def zfZ:TE:=⟨85,[.mpb 0 0],[.box bdB [.mpb 0 0,.own 1],.arr (.int .u8) .no],(.tup []),[.box bdB [.mpb 0 0,.own 1],.arr (.int .u8) .no],zdb⟩
theorem zkJ:EOk Tryz.prog zfZ:=zyE (fun d=>by rw[zdQ];rfl) (zw9 Tryz.call85 fun b w h1=>Any.Builder_copyCheck_used {Tryz.lays156 with} Tryz.Builder_Extra_156.toX72 b w h1)
noncomputable def zhx(d:List Int):Option (List UInt8):=gd (decide (0<d.length)) (some (d.map zkB))
noncomputable def zhB:List Int->Option (List UInt8):=zaj zhx
theorem zkd(d:List Int):zhB d=zhx d:=congrFun (zad zhx) d
noncomputable def zo1:TE:=⟨52,[.mpb 0 0],[.box bdB [.mpb 0 0,.own 1],.arr (.int .u8) .no],.str,[.dead,.dead],zhB⟩
theorem zu1:EOk Tryz.prog zo1:=zDk (fun d=>by rw[zkd];rfl) (zvu Tryz.call52 fun b g cap l cur w h1 h2 h3 h4 h5 h6 h7=>(Any.String_exact {Tryz.lays156 with} Tryz.Builder_Extra_156 b g cap l cur w h1 h2 h3 h4 h5 (by unfold BIG at h6;omega) h7).mono fun e w' ⟨he,hw⟩=>⟨he,by subst hw;exact froze_all w g _⟩)
end Go.Fw
namespace Go.Fw
noncomputable section
open Go
set_option maxRecDepth 1000000
set_option linter.unusedVariables false
abbrev XO(Φ:List TE)(tys:List (Nat×An))(c:CC)(rs:List RV)(e:TE):Prop:=∀d,zth Φ tys c rs e.ash e.rin e.rsh e.rout d=e.F d
theorem xq{Φ:List TE}{tys:List (Nat×An)}{c:CC}{rs:List RV}{e:TE}{B:DatL (e.ash++e.rin.map RK.sh)->Option (DatL (e.rsh:: e.rout.map RK.sh))}(q:∀d,e.F d=B d)(h:∀d,zth Φ tys c rs e.ash e.rin e.rsh e.rout d=B d):XO Φ tys c rs e:=fun d=>(h d).trans (q d).symm
def zn4(d:List Int):Option (List Int×Int):=zaa (zab (decide ((d.length:Int)>2000)) (gd (decide (0<=0)&&decide (0<=2000)&&decide (2000<=(d.length:Int))) (some (List.take (Int.toNat 2000-Int.toNat 0) (List.drop (Int.toNat 0) d)))) (some d)) fun x=>some (x,0)
def zob:=zaj zn4
theorem zow:∀d,zob d=zn4 d:=congrFun (zad zn4)
def zrv:TE:=⟨22,[.lst (.int .u8)],[],(.mpb 0 0),[.box ⟨none,[some ((.lst (.int .u8)),.no),some ((.int .i64),.no)]⟩ [.lst (.int .u8),.int .i64]],zob⟩
theorem zCv:XO [] zI3 c22 [.t 2] zrv:=xq zow fun d=>by kernel_rfl
def zhw(d:Int×List Int×Int):Option (Int×List Int×Int):=gd (zay (d.2.2+1)) (zaa (zab (decide (d.1<1)) (some true) (some ((d.2.1.length:Int)==0))) fun x=>zab x (some (0,d.2.1,d.2.2+1)) (gd (zay (d.2.2+1-1)) (zab (decide (d.2.2+1-1<(d.2.1.length:Int))) (gd (decide (0<=d.2.2+1-1)) (zaa d.2.1[Int.toNat (d.2.2+1-1)]? fun x=>gd (d.1 !=0) (some (Int.tmod (IntKind.wrap IntKind.i64 x) d.1,d.2.1,d.2.2+1)))) (gd ((d.2.1.length:Int) !=0) (gd (decide (0<=Int.tmod (d.2.2+1-1) (d.2.1.length:Int))) (zaa d.2.1[Int.toNat (Int.tmod (d.2.2+1-1) (d.2.1.length:Int))]? fun x=>gd (zay (IntKind.wrap IntKind.i64 x*131)) (gd (zay ((d.2.2+1-1)*7)) (gd (zay ((d.2.2+1-1)*7+3)) (gd ((d.2.1.length:Int) !=0) (gd (decide (0<=Int.tmod ((d.2.2+1-1)*7+3) (d.2.1.length:Int))) (zaa d.2.1[Int.toNat (Int.tmod ((d.2.2+1-1)*7+3) (d.2.1.length:Int))]? fun x_1=>gd (zay (IntKind.wrap IntKind.i64 x_1*1117)) (gd (zay (IntKind.wrap IntKind.i64 x*131+IntKind.wrap IntKind.i64 x_1*1117)) (gd (zay ((d.2.2+1-1)*29)) (gd (zay (IntKind.wrap IntKind.i64 x*131+IntKind.wrap IntKind.i64 x_1*1117+(d.2.2+1-1)*29)) (gd ((d.2.1.length:Int) !=0) (gd (zay (Int.tdiv (d.2.2+1-1) (d.2.1.length:Int))) (gd (zay (Int.tdiv (d.2.2+1-1) (d.2.1.length:Int)*53)) (gd (zay (IntKind.wrap IntKind.i64 x*131+IntKind.wrap IntKind.i64 x_1*1117+(d.2.2+1-1)*29+Int.tdiv (d.2.2+1-1) (d.2.1.length:Int)*53)) (gd (zay (Int.tdiv (IntKind.wrap IntKind.i64 x*131+IntKind.wrap IntKind.i64 x_1*1117+(d.2.2+1-1)*29+Int.tdiv (d.2.2+1-1) (d.2.1.length:Int)*53) 64)) (gd (d.1 !=0) (some (Int.tmod (IntKind.wrap IntKind.i64 (↑(BitVec.toNat (BitVec.ofInt (IntKind.bits IntKind.i64) (IntKind.wrap IntKind.i64 x*131+IntKind.wrap IntKind.i64 x_1*1117+(d.2.2+1-1)*29+Int.tdiv (d.2.2+1-1) (d.2.1.length:Int)*53) ^^^ BitVec.ofInt (IntKind.bits IntKind.i64) (Int.tdiv (IntKind.wrap IntKind.i64 x*131+IntKind.wrap IntKind.i64 x_1*1117+(d.2.2+1-1)*29+Int.tdiv (d.2.2+1-1) (d.2.1.length:Int)*53) 64))):Int)) d.1,d.2.1,d.2.2+1))))))))))))))))))))))
def zar:=zaj zhw
theorem zkc:∀d,zar d=zhw d:=congrFun (zad zhw)
def zdW:TE:=⟨45,[.mpb 0 0,.int .i64],[.box ⟨none,[some ((.lst (.int .u8)),.no),some ((.int .i64),.no)]⟩ [.lst (.int .u8),.int .i64]],(.int .i64),[.box ⟨none,[some ((.lst (.int .u8)),.no),some ((.int .i64),.no)]⟩ [.lst (.int .u8),.int .i64]],zar⟩
theorem zvO:XO [] zJh c45 [.t 4] zdW:=xq zkc fun d=>by kernel_rfl
def zeL:Nat->Int->Option (List UInt8)|0,_=>none|n+1,d=>zab (decide (d< -9223372036854775807)) (some [45,57,50,50,51,51,55,50,48,51,54,56,53,52,55,55,53,56,48,56]) (zab (decide (d<0)) (gd (zay (0-d)) (zaa (zeL n (0-d)) fun x=>gd (decide (List.length [45]+List.length x<=BIG)) (some ([45]++x)))) (zab (decide (d<10)) (gd (zay (48+d)) (gd (decide (List.length [IntKind.wrap IntKind.u8 (48+d)]<=BIG)) (some (List.map zkB [IntKind.wrap IntKind.u8 (48+d)])))) (gd (zay (Int.tdiv d 10)) (zaa (zeL n (Int.tdiv d 10)) fun x=>gd (zay (48+Int.tmod d 10)) (gd (decide (List.length [IntKind.wrap IntKind.u8 (48+Int.tmod d 10)]<=BIG)) (gd (decide (List.length x+List.length (List.map zkB [IntKind.wrap IntKind.u8 (48+Int.tmod d 10)])<=BIG)) (some (x++List.map zkB [IntKind.wrap IntKind.u8 (48+Int.tmod d 10)]))))))))
def zuk:Int->Option (List UInt8):=zFk zeL
def zuz(n:Nat):TE:=⟨112,[.int .i64],[],(.str),[],zeL n⟩
def zzD:TE:=⟨112,[.int .i64],[],(.str),[],zuk⟩
theorem zE3(n:Nat)(d:Int):zth [zuz n] zFy zId [.t 2] [.int .i64] [] (.str) [] d=zeL (n+1) d:=by kernel_rfl
def zhv(d:Unit):Option (List Typ):=some [(⟨[113,117,101,114,121],[],[⟨[117,115,101,114,115],[117,115,101,114],true,false,false,false,false,[]⟩,⟨[102,105,114,115,116],[117,115,101,114],false,false,false,false,false,[]⟩,⟨[105,116,101,109,115],[105,116,101,109],true,true,false,false,false,[]⟩,⟨[116,111,112],[105,116,101,109],false,false,false,false,false,[]⟩,⟨[114,101,97,100,121],[98,111,111,108],false,false,false,false,false,[]⟩]⟩:Typ),(⟨[117,115,101,114],[105,100],[⟨[105,100],[105,110,116],false,true,false,false,false,[]⟩,⟨[110,97,109,101],[116,101,120,116],false,true,false,false,false,[]⟩,⟨[98,111,115,115],[117,115,101,114],false,false,false,false,false,[]⟩,⟨[97,103,101],[105,110,116],false,false,false,false,false,[]⟩,⟨[108,105,107,101,115],[105,116,101,109],true,false,false,false,false,[]⟩,⟨[114,97,110,107],[105,110,116],false,false,false,false,false,[[97,103,101]]⟩,⟨[110,111,116,101],[110,111,116,101],false,false,false,false,false,[]⟩]⟩:Typ),(⟨[105,116,101,109],[105,100],[⟨[105,100],[105,110,116],false,true,false,false,false,[]⟩,⟨[116,105,116,108,101],[116,101,120,116],false,false,false,false,false,[]⟩,⟨[109,97,107,101,114],[117,115,101,114],false,true,false,false,false,[]⟩,⟨[112,114,105,99,101],[105,110,116],false,false,false,false,false,[]⟩,⟨[102,97,110,115],[117,115,101,114],true,true,false,false,false,[]⟩,⟨[116,97,120],[105,110,116],false,false,false,false,false,[[112,114,105,99,101]]⟩,⟨[115,117,109,115],[105,110,116],true,false,false,false,false,[]⟩]⟩:Typ),(⟨[110,111,116,101],[],[⟨[98,111,100,121],[116,101,120,116],false,true,false,false,true,[]⟩,⟨[98,121],[117,115,101,114],false,false,false,false,false,[]⟩]⟩:Typ)]
def zhz:=zaj zhv
theorem zkb:∀d,zhz d=zhv d:=congrFun (zad zhv)
def zku:TE:=⟨113,[],[],(.lst (.nm .Typ)),[],zhz⟩
theorem zvN:XO [] zG2 zIw [.t 0] zku:=xq zkb fun d=>by kernel_rfl
def zgT(d:List UInt8):Option Bool:=zaa (zab (d==[105,110,116]) (some true) (zab (d==[116,101,120,116]) (some true) (some (d==[98,111,111,108])))) fun x=>some x
def zct:=zaj zgT
theorem zhA:∀d,zct d=zgT d:=congrFun (zad zgT)
def zfF:TE:=⟨119,[.str],[],(.bool),[],zct⟩
theorem zyk:XO [] zG6 zIA [.t 2] zfF:=xq zhA fun d=>by kernel_rfl
def zk9(d:Part×List UInt8):Option Int:=zaa (zal (fun(s:Int)=>zab (decide (s<(d.1.types.length:Int))) (gd (decide (0<=s)) (zaa d.1.types[s.toNat]? fun x=>zab (x.name==d.2) (some (Sum.inr (Sum.inr s))) (gd (zay (s+1)) (some (Sum.inl (s+1)))))) (some (Sum.inr (Sum.inl s)))) 0) fun(x:Int⊕Int)=>zav x (fun d=>some (-1)) fun r=>some r
def zbX:=zaj zk9
theorem zkr:∀d,zbX d=zk9 d:=congrFun (zad zk9)
def zeu:TE:=⟨57,[.st .Part,.str],[],(.int .i64),[],zbX⟩
theorem zCz:XO [] zJp c57 [.t 4] zeu:=xq zkr fun d=>by kernel_rfl
def zk4(d:List UInt8×List UInt8×List Typ):Option (List UInt8×List Typ):=zaa (zaa (zct d.2.1) fun x=>zab x (some (true,d.1,d.2.2,[],[])) (zaa (zbX ((⟨d.1,d.2.2⟩:Part),d.2.1)) fun x=>some (decide (x>=0),d.1,d.2.2,[],[]))) fun(x:Bool×List UInt8×List Typ×List UInt8×List Typ)=>zab x.1 (some (x.2.1,x.2.2.1)) (zaa (zab (d.2.1 !=[110,111,116,101]) (some (x.2.1,x.2.2.1,x.2.2.2.1,x.2.2.2.2,(d.2.1,[105,100]),[(⟨[105,100],[105,110,116],false,true,false,false,false,[]⟩:Field)])) (some (x.2.1,x.2.2.1,x.2.2.2.1,x.2.2.2.2,(d.2.1,[]),[(⟨[98,111,100,121],[116,101,120,116],false,true,false,false,true,[]⟩:Field)]))) fun(x:List UInt8×List Typ×List UInt8×List Typ×(List UInt8×List UInt8)×List Field)=>gd (decide (List.length x.2.1+List.length [(⟨x.2.2.2.2.1.1,x.2.2.2.2.1.2,x.2.2.2.2.2⟩:Typ)]<=LIM)) (some (x.1,x.2.1++[(⟨x.2.2.2.2.1.1,x.2.2.2.2.1.2,x.2.2.2.2.2⟩:Typ)])))
def ziI:=zaj zk4
theorem zm9:∀d,ziI d=zk4 d:=congrFun (zad zk4)
def zoP:TE:=⟨145,[.agg [.str,.own 0],.str],[.arr (.nm .Typ) (.at [(2,.no)])],(.agg [.str,.own 1]),[.dead,.arr (.nm .Typ) (.at [(2,.no)])],ziI⟩
theorem zAT:XO [zfF,zeu] zHn zIR [.c 4 (some 2)] zoP:=xq zm9 fun d=>by kernel_rfl
def ziA(d:Typ×List UInt8):Option Int:=zaa (zal (fun(s:Int)=>zab (decide (s<(d.1.fields.length:Int))) (gd (decide (0<=s)) (zaa d.1.fields[s.toNat]? fun x=>zab (x.name==d.2) (some (Sum.inr (Sum.inr s))) (gd (zay (s+1)) (some (Sum.inl (s+1)))))) (some (Sum.inr (Sum.inl s)))) 0) fun(x:Int⊕Int)=>zav x (fun d=>some (-1)) fun r=>some r
def zb4:=zaj ziA
theorem ziK:∀d,zb4 d=ziA d:=congrFun (zad ziA)
def zeF:TE:=⟨58,[.st .Typ,.str],[],(.int .i64),[],zb4⟩
theorem zAX:XO [] zJq c58 [.t 4] zeF:=xq ziK fun d=>by kernel_rfl
def zk3(d:List UInt8×List UInt8×Field×List Typ):Option (List UInt8×List Typ):=zaa (ziI (d.1,d.2.1,d.2.2.2)) fun(x:List UInt8×List Typ)=>zaa (ziI (x.1,d.2.2.1.of,x.2)) fun(x:List UInt8×List Typ)=>zaa (zbX ((⟨x.1,x.2⟩:Part),d.2.1)) fun x_1=>gd (decide (0<=x_1)&&decide (x_1<(x.2.length:Int))) (zaa x.2[x_1.toNat]? fun x_2=>zaa (zb4 (x_2,d.2.2.1.name)) fun x_3=>zab (decide (x_3>=0)) (gd (decide (0<=x_1)&&decide (x_1<(↑(List.length (List.set x.2 (x_1.toNat) x_2)):Int))) (zaa (List.set x.2 (x_1.toNat) x_2)[x_1.toNat]? fun x_4=>gd (decide (0<=x_3)&&decide (x_3<(x_4.fields.length:Int))) (zaa x_4.fields[x_3.toNat]? fun x_5=>zab (!x_5.far) (some (x.1,List.set (List.set x.2 (x_1.toNat) x_2) (x_1.toNat) x_4)) (gd (decide (0<=x_1)&&decide (x_1<(↑(List.length (List.set (List.set x.2 (x_1.toNat) x_2) (x_1.toNat) x_4)):Int))) (zaa (List.set (List.set x.2 (x_1.toNat) x_2) (x_1.toNat) x_4)[x_1.toNat]? fun x_6=>gd (decide (0<=x_3)&&decide (x_3<(x_6.fields.length:Int))) (zaa x_6.fields[x_3.toNat]? fun x_7=>some (x.1,List.set (List.set (List.set x.2 (x_1.toNat) x_2) (x_1.toNat) x_4) (x_1.toNat) (⟨x_6.name,x_6.key,List.set x_6.fields (x_3.toNat) (⟨d.2.2.1.name,d.2.2.1.of,d.2.2.1.list,d.2.2.1.must,d.2.2.1.far,d.2.2.1.hidden,d.2.2.1.shared,d.2.2.1.needs⟩:Field)⟩:Typ)))))))) (zaa (zal (fun(s:Int×List UInt8×List Typ×List UInt8×List Typ)=>zab (decide (s.1<(d.2.2.1.needs.length:Int))) (gd (decide (0<=x_1)&&decide (x_1<(s.2.2.1.length:Int))) (zaa s.2.2.1[x_1.toNat]? fun x=>gd (decide (0<=s.1)) (zaa d.2.2.1.needs[s.1.toNat]? fun x_4=>zaa (zb4 (x,x_4)) fun x_5=>zaa (zab (decide (x_5<0)) (gd (decide (0<=x_1)&&decide (x_1<(↑(List.length (List.set s.2.2.1 (x_1.toNat) x)):Int))) (zaa (List.set s.2.2.1 (x_1.toNat) x)[x_1.toNat]? fun x_6=>gd (decide (0<=s.1)) (zaa d.2.2.1.needs[s.1.toNat]? fun x_7=>gd (decide (List.length x_6.fields+List.length [(⟨x_7,[105,110,116],false,false,true,false,false,[]⟩:Field)]<=LIM)) (gd (decide (0<=x_1)&&decide (x_1<(↑(List.length (List.set s.2.2.1 (x_1.toNat) x)):Int))) (gd (decide (x_1.toNat=x_1.toNat)) (some (s.2.1,List.set (List.set s.2.2.1 (x_1.toNat) x) (x_1.toNat) (⟨x_6.name,x_6.key,x_6.fields++[(⟨x_7,[105,110,116],false,false,true,false,false,[]⟩:Field)]⟩:Typ),s.2.2.2.1,s.2.2.2.2))))))) (some (s.2.1,List.set s.2.2.1 (x_1.toNat) x,s.2.2.2.1,s.2.2.2.2))) fun(x:List UInt8×List Typ×List UInt8×List Typ)=>gd (zay (s.1+1)) (some (Sum.inl (s.1+1,x.1,x.2.1,x.2.2.1,x.2.2.2)))))) (some (Sum.inr (s.1,s.2.1,s.2.2.1,s.2.2.2.1,s.2.2.2.2)))) (0,x.1,List.set x.2 (x_1.toNat) x_2,[],[])) fun(x:Int×List UInt8×List Typ×List UInt8×List Typ)=>gd (decide (0<=x_1)&&decide (x_1<(x.2.2.1.length:Int))) (zaa x.2.2.1[x_1.toNat]? fun x_4=>gd (decide (List.length x_4.fields+List.length [d.2.2.1]<=LIM)) (gd (decide (0<=x_1)&&decide (x_1<(x.2.2.1.length:Int))) (gd (decide (x_1.toNat=x_1.toNat)) (some (x.2.1,List.set x.2.2.1 (x_1.toNat) (⟨x_4.name,x_4.key,x_4.fields++[d.2.2.1]⟩:Typ))))))))
def zg4:=zaj zk3
theorem zm8:∀d,zg4 d=zk3 d:=congrFun (zad zk3)
def zoO:TE:=⟨114,[.agg [.str,.own 0],.str,.st .Field],[.arr (.nm .Typ) (.at [(2,.no)])],(.agg [.str,.own 1]),[.dead,.arr (.nm .Typ) (.at [(2,.no)])],zg4⟩
theorem zAS:XO [zoP,zeu,zeF] zG3 zIx [.c 6 (some 2)] zoO:=xq zm8 fun d=>by kernel_rfl
def zjy(d:List Int×Int):Option (List Part×List Int×Int):=zaa (zar (3,d.1,d.2)) fun(x:Int×List Int×Int)=>gd (zay (1+x.1)) (zaa (zal (fun(s:Int×(List Int×Int)×List Part)=>zab (decide (s.1<1+x.1)) (gd (decide (0<=s.1)) (zaa [[101,97,115,116],[119,101,115,116],[110,111,114,116,104]][s.1.toNat]? fun x=>zaa (zuk s.1) fun x_1=>gd (decide (List.length [110]+List.length x_1<=BIG)) (gd (decide (List.length s.2.2+List.length [(⟨x,[⟨[113,117,101,114,121],[],[⟨[110]++x_1,[105,110,116],false,false,false,false,false,[]⟩]⟩]⟩:Part)]<=LIM)) (gd (zay (s.1+1)) (some (Sum.inl (s.1+1,(s.2.1.1,s.2.1.2),s.2.2++[(⟨x,[⟨[113,117,101,114,121],[],[⟨[110]++x_1,[105,110,116],false,false,false,false,false,[]⟩]⟩]⟩:Part)]))))))) (some (Sum.inr (s.1,(s.2.1.1,s.2.1.2),s.2.2)))) (0,(x.2.1,x.2.2),[])) fun(x_1:Int×(List Int×Int)×List Part)=>zaa (zhz ()) fun x_2=>zaa (zar (1+x.1,x_1.2.1.1,x_1.2.1.2)) fun(x_3:Int×List Int×Int)=>zaa (zal (fun(s:Int×(List Int×Int)×List Part)=>zab (decide (s.1<(x_2.length:Int))) (zaa (zal (fun(s_1:Int×(List Int×Int)×List Part)=>gd (decide (0<=s.1)) (zaa x_2[s.1.toNat]? fun x_4=>zab (decide (s_1.1<(x_4.fields.length:Int))) (gd (decide (0<=s.1)) (zaa x_2[s.1.toNat]? fun x_5=>gd (decide (0<=s_1.1)) (zaa x_5.fields[s_1.1.toNat]? fun x_6=>zaa (zab (x_6.name==[105,100]) (some (true,(s_1.2.1.1,s_1.2.1.2),s_1.2.2,x_6.name,x_6.of,x_6.list,x_6.must,x_6.far,x_6.hidden,x_6.shared,x_6.needs)) (zab (x_6.name==[98,111,100,121]) (some (true,(s_1.2.1.1,s_1.2.1.2),s_1.2.2,x_6.name,x_6.of,x_6.list,x_6.must,x_6.far,x_6.hidden,x_6.shared,x_6.needs)) (zab (x_6.name !=[97,103,101]) (zab (x_6.name !=[112,114,105,99,101]) (zaa (zar (7,s_1.2.1.1,s_1.2.1.2)) fun(x:Int×List Int×Int)=>some (x.1==0,(x.2.1,x.2.2),s_1.2.2,x_6.name,x_6.of,x_6.list,x_6.must,x_6.far,x_6.hidden,x_6.shared,x_6.needs)) (some (false,(s_1.2.1.1,s_1.2.1.2),s_1.2.2,x_6.name,x_6.of,x_6.list,x_6.must,x_6.far,x_6.hidden,x_6.shared,x_6.needs))) (some (false,(s_1.2.1.1,s_1.2.1.2),s_1.2.2,x_6.name,x_6.of,x_6.list,x_6.must,x_6.far,x_6.hidden,x_6.shared,x_6.needs))))) fun(x_7:Bool×(List Int×Int)×List Part×List UInt8×List UInt8×Bool×Bool×Bool×Bool×Bool×List (List UInt8))=>zab x_7.1 (gd (zay (s_1.1+1)) (some (Sum.inl (s_1.1+1,(x_7.2.1.1,x_7.2.1.2),x_7.2.2.1)))) (zaa (zar (1+x.1,x_7.2.1.1,x_7.2.1.2)) fun(x_8:Int×List Int×Int)=>zaa (zab (x_7.2.2.2.2.1==[110,111,116,101]) (zaa (zar (12,x_8.2.1,x_8.2.2)) fun(x:Int×List Int×Int)=>some (decide (x.1>0),(x.2.1,x.2.2),x_7.2.2.1,x_7.2.2.2.1,x_7.2.2.2.2.1,x_7.2.2.2.2.2.1,x_7.2.2.2.2.2.2.1,x_7.2.2.2.2.2.2.2.1,x_7.2.2.2.2.2.2.2.2.1,x_7.2.2.2.2.2.2.2.2.2.1,x_7.2.2.2.2.2.2.2.2.2.2)) (gd (decide (0<=s.1)) (zaa x_2[s.1.toNat]? fun x=>zab (x.name==[110,111,116,101]) (zaa (zar (12,x_8.2.1,x_8.2.2)) fun(x:Int×List Int×Int)=>some (decide (x.1>0),(x.2.1,x.2.2),x_7.2.2.1,x_7.2.2.2.1,x_7.2.2.2.2.1,x_7.2.2.2.2.2.1,x_7.2.2.2.2.2.2.1,x_7.2.2.2.2.2.2.2.1,x_7.2.2.2.2.2.2.2.2.1,x_7.2.2.2.2.2.2.2.2.2.1,x_7.2.2.2.2.2.2.2.2.2.2)) (some (false,(x_8.2.1,x_8.2.2),x_7.2.2.1,x_7.2.2.2.1,x_7.2.2.2.2.1,x_7.2.2.2.2.2.1,x_7.2.2.2.2.2.2.1,x_7.2.2.2.2.2.2.2.1,x_7.2.2.2.2.2.2.2.2.1,x_7.2.2.2.2.2.2.2.2.2.1,x_7.2.2.2.2.2.2.2.2.2.2))))) fun(x_9:Bool×(List Int×Int)×List Part×List UInt8×List UInt8×Bool×Bool×Bool×Bool×Bool×List (List UInt8))=>zaa (zab x_9.1 (some (x_3.1,(x_9.2.1.1,x_9.2.1.2),x_9.2.2.1,x_9.2.2.2.1,x_9.2.2.2.2.1,x_9.2.2.2.2.2.1,x_9.2.2.2.2.2.2.1,x_9.2.2.2.2.2.2.2.1,x_9.2.2.2.2.2.2.2.2.1,x_9.2.2.2.2.2.2.2.2.2.1,x_9.2.2.2.2.2.2.2.2.2.2)) (some (x_8.1,(x_9.2.1.1,x_9.2.1.2),x_9.2.2.1,x_9.2.2.2.1,x_9.2.2.2.2.1,x_9.2.2.2.2.2.1,x_9.2.2.2.2.2.2.1,x_9.2.2.2.2.2.2.2.1,x_9.2.2.2.2.2.2.2.2.1,x_9.2.2.2.2.2.2.2.2.2.1,x_9.2.2.2.2.2.2.2.2.2.2))) fun(x_10:Int×(List Int×Int)×List Part×List UInt8×List UInt8×Bool×Bool×Bool×Bool×Bool×List (List UInt8))=>zaa (zar (16,x_10.2.1.1,x_10.2.1.2)) fun(x_11:Int×List Int×Int)=>zaa (zab ((x_10.2.2.2.2.2.2.2.2.2.2.length:Int)==0) (zaa (zar (5,x_11.2.1,x_11.2.2)) fun(x:Int×List Int×Int)=>some (x.1==0,(x.2.1,x.2.2),x_10.2.2.1,x_10.2.2.2.1,x_10.2.2.2.2.1,x_10.2.2.2.2.2.1,x_10.2.2.2.2.2.2.1,x_10.2.2.2.2.2.2.2.1,x_11.1==0,x_10.2.2.2.2.2.2.2.2.2.1,x_10.2.2.2.2.2.2.2.2.2.2)) (zaa (zar (8,x_11.2.1,x_11.2.2)) fun(x:Int×List Int×Int)=>zab (x.1==0) (zaa (zar (5,x.2.1,x.2.2)) fun(x:Int×List Int×Int)=>some (x.1==0,(x.2.1,x.2.2),x_10.2.2.1,x_10.2.2.2.1,x_10.2.2.2.2.1,x_10.2.2.2.2.2.1,x_10.2.2.2.2.2.2.1,x_10.2.2.2.2.2.2.2.1,x_11.1==0,x_10.2.2.2.2.2.2.2.2.2.1,x_10.2.2.2.2.2.2.2.2.2.2)) (some (false,(x.2.1,x.2.2),x_10.2.2.1,x_10.2.2.2.1,x_10.2.2.2.2.1,x_10.2.2.2.2.2.1,x_10.2.2.2.2.2.2.1,x_10.2.2.2.2.2.2.2.1,x_11.1==0,x_10.2.2.2.2.2.2.2.2.2.1,x_10.2.2.2.2.2.2.2.2.2.2)))) fun(x_12:Bool×(List Int×Int)×List Part×List UInt8×List UInt8×Bool×Bool×Bool×Bool×Bool×List (List UInt8))=>zaa (zab x_12.1 (gd (zay (x_10.1+1)) (gd (1+x.1 !=0) (gd (zay (x_10.1+1)) (gd (1+x.1 !=0) (gd (decide (0<=Int.tmod (x_10.1+1) (1+x.1))&&decide (Int.tmod (x_10.1+1) (1+x.1)<(x_12.2.2.1.length:Int))) (zaa x_12.2.2.1[Int.toNat (Int.tmod (x_10.1+1) (1+x.1))]? fun x_13=>gd (decide (0<=s.1)) (zaa x_2[s.1.toNat]? fun x_14=>zaa (zg4 (x_13.name,x_14.name,(⟨x_12.2.2.2.1,x_12.2.2.2.2.1,x_12.2.2.2.2.2.1,x_12.2.2.2.2.2.2.1,x_12.2.2.2.2.2.2.2.1,x_12.2.2.2.2.2.2.2.2.1,true,x_12.2.2.2.2.2.2.2.2.2.2⟩:Field),x_13.types)) fun(x_15:List UInt8×List Typ)=>gd (decide (0<=Int.tmod (x_10.1+1) (1+x.1))&&decide (Int.tmod (x_10.1+1) (1+x.1)<(x_12.2.2.1.length:Int))) (gd (decide (Int.toNat (Int.tmod (x_10.1+1) (1+x.1))=Int.toNat (Int.tmod (x_10.1+1) (1+x.1)))) (some ((x_12.2.1.1,x_12.2.1.2),List.set x_12.2.2.1 (Int.toNat (Int.tmod (x_10.1+1) (1+x.1))) (⟨x_15.1,x_15.2⟩:Part),x_12.2.2.2.1,x_12.2.2.2.2.1,x_12.2.2.2.2.2.1,x_12.2.2.2.2.2.2.1,x_12.2.2.2.2.2.2.2.1,x_12.2.2.2.2.2.2.2.2.1,true,x_12.2.2.2.2.2.2.2.2.2.2)))))))))) (some ((x_12.2.1.1,x_12.2.1.2),x_12.2.2.1,x_12.2.2.2.1,x_12.2.2.2.2.1,x_12.2.2.2.2.2.1,x_12.2.2.2.2.2.2.1,x_12.2.2.2.2.2.2.2.1,x_12.2.2.2.2.2.2.2.2.1,x_12.2.2.2.2.2.2.2.2.2.1,x_12.2.2.2.2.2.2.2.2.2.2))) fun(x:(List Int×Int)×List Part×List UInt8×List UInt8×Bool×Bool×Bool×Bool×Bool×List (List UInt8))=>gd (decide (0<=x_10.1)&&decide (x_10.1<(x.2.1.length:Int))) (zaa x.2.1[x_10.1.toNat]? fun x_13=>gd (decide (0<=s.1)) (zaa x_2[s.1.toNat]? fun x_14=>zaa (zg4 (x_13.name,x_14.name,(⟨x.2.2.1,x.2.2.2.1,x.2.2.2.2.1,x.2.2.2.2.2.1,x.2.2.2.2.2.2.1,x.2.2.2.2.2.2.2.1,x.2.2.2.2.2.2.2.2.1,x.2.2.2.2.2.2.2.2.2⟩:Field),x_13.types)) fun(x_15:List UInt8×List Typ)=>gd (decide (0<=x_10.1)&&decide (x_10.1<(x.2.1.length:Int))) (gd (decide (x_10.1.toNat=x_10.1.toNat)) (gd (zay (s_1.1+1)) (some (Sum.inl (s_1.1+1,(x.1.1,x.1.2),List.set x.2.1 (x_10.1.toNat) (⟨x_15.1,x_15.2⟩:Part)))))))))))) (some (Sum.inr (s_1.1,(s_1.2.1.1,s_1.2.1.2),s_1.2.2))))) (0,(s.2.1.1,s.2.1.2),s.2.2)) fun(x:Int×(List Int×Int)×List Part)=>gd (zay (s.1+1)) (some (Sum.inl (s.1+1,(x.2.1.1,x.2.1.2),x.2.2)))) (some (Sum.inr (s.1,(s.2.1.1,s.2.1.2),s.2.2)))) (0,(x_3.2.1,x_3.2.2),x_1.2.2)) fun(x:Int×(List Int×Int)×List Part)=>some (x.2.2,x.2.1.1,x.2.1.2))
def zjD:=zaj zjy
theorem zlq:∀d,zjD d=zjy d:=congrFun (zad zjy)
def zmr:TE:=⟨82,[.mpb 0 0],[.box ⟨none,[some ((.lst (.int .u8)),.no),some ((.int .i64),.no)]⟩ [.lst (.int .u8),.int .i64]],(.lst (.nm .Part)),[.box ⟨none,[some ((.lst (.int .u8)),.no),some ((.int .i64),.no)]⟩ [.lst (.int .u8),.int .i64]],zjD⟩
theorem zyi:XO [zdW,zzD,zku,zoO] zJE c82 [.t 2] zmr:=xq zlq fun d=>by kernel_rfl
def zvS(d:Int×Int×Int):Option Bool:=zaa (zab (decide (d.1>=d.2.1)) (some (decide (d.1<=d.2.2))) (some false)) fun x=>some x
def zvT:=zaj zvS
theorem zsR:∀d,zvT d=zvS d:=congrFun (zad zvS)
def zyQ:TE:=⟨146,[.int .i64,.int .i64,.int .i64],[],(.bool),[],zvT⟩
theorem zGx:XO [] zHo zIS [.t 6] zyQ:=xq zsR fun d=>by kernel_rfl
def zn3(d:List UInt8):Option Bool:=zaa (zvT ((d.length:Int),1,9)) fun x=>zab (!x) (some false) (zaa (zal (fun(s:Int)=>zab (decide (s<(d.length:Int))) (zaa (gd (decide (0<=s)) (zaa d[s.toNat]? fun x=>zab (decide (zaB x>=97)) (gd (decide (0<=s)) (zaa d[s.toNat]? fun x=>zab (decide (zaB x<=122)) (some false) (gd (decide (0<=s)) (zaa d[s.toNat]? fun x=>zab (zaB x==95) (some false) (zab (decide (s>0)) (gd (decide (0<=s)) (zaa d[s.toNat]? fun x=>zab (decide (zaB x>=48)) (gd (decide (0<=s)) (zaa d[s.toNat]? fun x=>some !decide (zaB x<=57))) (some true))) (some true)))))) (gd (decide (0<=s)) (zaa d[s.toNat]? fun x=>zab (zaB x==95) (some false) (zab (decide (s>0)) (gd (decide (0<=s)) (zaa d[s.toNat]? fun x=>zab (decide (zaB x>=48)) (gd (decide (0<=s)) (zaa d[s.toNat]? fun x=>some !decide (zaB x<=57))) (some true))) (some true)))))) fun x=>zab x (some (Sum.inr (Sum.inr false))) (gd (zay (s+1)) (some (Sum.inl (s+1))))) (some (Sum.inr (Sum.inl s)))) 0) fun(x:Int⊕Bool)=>zav x (fun d=>some true) fun r=>some r)
def zoa:=zaj zn3
theorem zov:∀d,zoa d=zn3 d:=congrFun (zad zn3)
def zru:TE:=⟨118,[.str],[],(.bool),[],zoa⟩
theorem zCu:XO [zyQ] zG5 zIz [.t 2] zru:=xq zov fun d=>by kernel_rfl
def zn7(d:List UInt8):Option Bool:=zaa (zaa (zoa d) fun x=>zab x (zab (decide ((d.length:Int)<=8)) (zaa d[Int.toNat 0]? fun x=>zab (zaB x !=95) (zaa (zct d) fun x=>zab (!x) (zab (d !=[112,97,114,116]) (zab (d !=[116,121,112,101]) (zab (d !=[107,101,121]) (zab (d !=[102,97,114]) (zab (d !=[104,105,100,100,101,110]) (zab (d !=[115,104,97,114,101,100]) (some (d !=[110,101,101,100,115])) (some false)) (some false)) (some false)) (some false)) (some false)) (some false)) (some false)) (some false)) (some false)) (some false)) fun x=>some x
def zfl:=zaj zn7
theorem zoz:∀d,zfl d=zn7 d:=congrFun (zad zn7)
def zoh:TE:=⟨90,[.str],[],(.bool),[],zfl⟩
theorem zCy:XO [zru,zfF] zJK c90 [.t 2] zoh:=xq zoz fun d=>by kernel_rfl
def zrf(d:Typ):Option Bool:=zab (d.key==[]) (some true) (zaa (zb4 (d,d.key)) fun x=>zab (decide (x<0)) (some false) (gd (decide (0<=x)) (zaa d.fields[x.toNat]? fun x=>zaa (zab (x.of==[105,110,116]) (zab (!x.list) (zab x.must (zab (!x.far) (zab (!x.hidden) (some ((x.needs.length:Int)==0)) (some false)) (some false)) (some false)) (some false)) (some false)) fun x=>some x)))
def zrk:=zaj zrf
theorem zqx:∀d,zrk d=zrf d:=congrFun (zad zrf)
def zuA:TE:=⟨120,[.st .Typ],[],(.bool),[],zrk⟩
theorem zE5:XO [zeF] zG7 zIB [.t 2] zuA:=xq zqx fun d=>by kernel_rfl
def zk8(d:Typ×Field):Option Bool:=zaa (zab (decide ((d.2.needs.length:Int)>0)) (zab (d.2.of !=[105,110,116]) (some true) (zab d.2.list (some true) (zab d.2.far (some true) (zab d.2.must (some true) (zab (d.1.key==[]) (some true) (some (d.2.name==d.1.key))))))) (some false)) fun x=>zab x (some false) (zaa (zal (fun(s:Int)=>zab (decide (s<(d.2.needs.length:Int))) (gd (decide (0<=s)) (zaa d.2.needs[s.toNat]? fun x=>zaa (zb4 (d.1,x)) fun x=>zaa (zab (decide (x<0)) (some true) (gd (decide (0<=x)) (zaa d.1.fields[x.toNat]? fun x_1=>zab (decide ((x_1.needs.length:Int)>0)) (some true) (gd (decide (0<=x)) (zaa d.1.fields[x.toNat]? fun x_2=>zab (x_2.of !=[105,110,116]) (some true) (gd (decide (0<=x)) (zaa d.1.fields[x.toNat]? fun x=>zab x.list (some true) (zab (decide (s>0)) (gd (zay (s-1)) (gd (decide (0<=s-1)) (zaa d.2.needs[Int.toNat (s-1)]? fun x=>gd (decide (0<=s)) (zaa d.2.needs[s.toNat]? fun x_3=>some !Op.bytesLess x x_3)))) (some false))))))))) fun x=>zab x (some (Sum.inr (Sum.inr false))) (gd (zay (s+1)) (some (Sum.inl (s+1)))))) (some (Sum.inr (Sum.inl s)))) 0) fun(x:Int⊕Bool)=>zav x (fun d=>some true) fun r=>some r)
def zlu:=zaj zk8
theorem znd:∀d,zlu d=zk8 d:=congrFun (zad zk8)
def zoT:TE:=⟨121,[.st .Typ,.st .Field],[],(.bool),[],zlu⟩
theorem zAY:XO [zeF] zG8 zIC [.t 4] zoT:=xq znd fun d=>by kernel_rfl
def zk7(d:Part×Int):Option Int:=gd (decide (0<=d.2)) (zaa d.1.types[d.2.toNat]? fun x=>zaa (zaa (zfl x.name) fun x_1=>zab (!x_1) (some true) (zab (x.key !=[]) (zaa (zfl x.key) fun x_2=>zab (!x_2) (some true) (zab ((x.fields.length:Int)==0) (some true) (some (decide ((x.fields.length:Int)>8))))) (zab ((x.fields.length:Int)==0) (some true) (some (decide ((x.fields.length:Int)>8)))))) fun x_1=>zab x_1 (some 1) (zaa (zal (fun(s:Int)=>zab (decide (s<(x.fields.length:Int))) (gd (decide (0<=s)) (zaa x.fields[s.toNat]? fun x=>zaa (zaa (zfl x.name) fun x_2=>zab (!x_2) (some true) (zaa (zct x.of) fun x_3=>zab (!x_3) (zaa (zfl x.of) fun x=>some !x) (some false))) fun x_2=>zab x_2 (some (Sum.inr (Sum.inr 1))) (zaa (zal (fun(s:Int)=>zab (decide (s<(x.needs.length:Int))) (gd (decide (0<=s)) (zaa x.needs[s.toNat]? fun x=>zaa (zfl x) fun x=>zab (!x) (some (Sum.inr (Sum.inr (Sum.inr (Sum.inr 1))))) (gd (zay (s+1)) (some (Sum.inl (s+1)))))) (some (Sum.inr (Sum.inl s)))) 0) fun(x:Int⊕Int⊕Int⊕Int)=>zav x (fun d=>gd (zay (s+1)) (some (Sum.inl (s+1)))) fun r=>some r))) (some (Sum.inr (Sum.inl s)))) 0) fun(x_2:Int⊕Int)=>zav x_2 (fun d_1=>zaa (zbX (d.1,x.name)) fun x_3=>zab (x_3 !=d.2) (some 2) (zaa (zal (fun(s:Int)=>zab (decide (s<(x.fields.length:Int))) (gd (decide (0<=s)) (zaa x.fields[s.toNat]? fun x_4=>zaa (zb4 (x,x_4.name)) fun x=>zab (x !=s) (some (Sum.inr (Sum.inr 2))) (gd (zay (s+1)) (some (Sum.inl (s+1)))))) (some (Sum.inr (Sum.inl s)))) 0) fun(x_4:Int⊕Int)=>zav x_4 (fun d_2=>zaa (zal (fun(s:Int)=>zab (decide (s<(x.fields.length:Int))) (zaa (gd (decide (0<=s)) (zaa x.fields[s.toNat]? fun x_5=>zaa (zct x_5.of) fun x_6=>zab (!x_6) (gd (decide (0<=s)) (zaa x.fields[s.toNat]? fun x=>zaa (zbX (d.1,x.of)) fun x=>some (decide (x<0)))) (some false))) fun x=>zab x (some (Sum.inr (Sum.inr 3))) (gd (zay (s+1)) (some (Sum.inl (s+1))))) (some (Sum.inr (Sum.inl s)))) 0) fun(x_5:Int⊕Int)=>zav x_5 (fun d=>zaa (zrk x) fun x_6=>zab (!x_6) (some 4) (zaa (zal (fun(s:Int)=>zab (decide (s<(x.fields.length:Int))) (zaa (gd (decide (0<=s)) (zaa x.fields[s.toNat]? fun x_7=>zaa (zlu (x,x_7)) fun x_8=>zab (!x_8) (some true) (gd (decide (0<=s)) (zaa x.fields[s.toNat]? fun x_9=>zab x_9.far (gd (decide (0<=s)) (zaa x.fields[s.toNat]? fun x=>some x.shared)) (some false))))) fun x=>zab x (some (Sum.inr (Sum.inr 5))) (gd (zay (s+1)) (some (Sum.inl (s+1))))) (some (Sum.inr (Sum.inl s)))) 0) fun(x:Int⊕Int)=>zav x (fun d=>some 0) fun r=>some r)) fun r=>some r) fun r=>some r)) fun r=>some r))
def zlt:=zaj zk7
theorem znc:∀d,zlt d=zk7 d:=congrFun (zad zk7)
def zoS:TE:=⟨91,[.st .Part,.int .i64],[],(.int .i64),[],zlt⟩
theorem zAW:XO [zoh,zfF,zeu,zeF,zuA,zoT] zJL c91 [.t 4] zoS:=xq znc fun d=>by kernel_rfl
def zn6(d:Field):Option (List UInt8):=zaa (zab d.list (gd (decide (List.length [91]+List.length d.of<=BIG)) (gd (decide (List.length ([91]++d.of)+List.length [93]<=BIG)) (some ([91]++d.of++[93])))) (some d.of)) fun x=>zaa (zab d.must (gd (decide (List.length x+List.length [33]<=BIG)) (some (x++[33]))) (some x)) fun x=>gd (decide (List.length [32,32]+List.length d.name<=BIG)) (gd (decide (List.length ([32,32]++d.name)+List.length [32]<=BIG)) (gd (decide (List.length ([32,32]++d.name++[32])+List.length x<=BIG)) (zaa (zab d.far (gd (decide (List.length ([32,32]++d.name++[32]++x)+List.length [32,102,97,114]<=BIG)) (some ([32,32]++d.name++[32]++x++[32,102,97,114]))) (some ([32,32]++d.name++[32]++x))) fun x=>zaa (zab d.hidden (gd (decide (List.length x+List.length [32,104,105,100,100,101,110]<=BIG)) (some (x++[32,104,105,100,100,101,110]))) (some x)) fun x=>zaa (zab d.shared (gd (decide (List.length x+List.length [32,115,104,97,114,101,100]<=BIG)) (some (x++[32,115,104,97,114,101,100]))) (some x)) fun x=>zaa (zab (decide ((d.needs.length:Int)>0)) (gd (decide (List.length x+List.length [32,110,101,101,100,115]<=BIG)) (some (x++[32,110,101,101,100,115]))) (some x)) fun x=>zaa (zal (fun(s:List UInt8×Int)=>zab (decide (s.2<(d.needs.length:Int))) (gd (decide (List.length s.1+List.length [32]<=BIG)) (gd (decide (0<=s.2)) (zaa d.needs[s.2.toNat]? fun x=>gd (decide (List.length (s.1++[32])+List.length x<=BIG)) (gd (zay (s.2+1)) (some (Sum.inl (s.1++[32]++x,s.2+1))))))) (some (Sum.inr (s.1,s.2)))) (x,0)) fun(x:List UInt8×Int)=>gd (decide (List.length x.1+List.length [10]<=BIG)) (some (x.1++[10])))))
def zod:=zaj zn6
theorem zoy:∀d,zod d=zn6 d:=congrFun (zad zn6)
def zrx:TE:=⟨122,[.st .Field],[],(.str),[],zod⟩
theorem zCx:XO [] zG9 zID [.t 2] zrx:=xq zoy fun d=>by kernel_rfl
def zla(d:Part):Option (List UInt8):=gd (decide (List.length [112,97,114,116,32]+List.length d.name<=BIG)) (gd (decide (List.length ([112,97,114,116,32]++d.name)+List.length [10]<=BIG)) (zaa (zal (fun(s:List UInt8×Int)=>zab (decide (s.2<(d.types.length:Int))) (gd (decide (0<=s.2)) (zaa d.types[s.2.toNat]? fun x=>gd (decide (List.length s.1+List.length [116,121,112,101,32]<=BIG)) (gd (decide (List.length (s.1++[116,121,112,101,32])+List.length x.name<=BIG)) (zaa (zab (x.key !=[]) (gd (decide (List.length (s.1++[116,121,112,101,32]++x.name)+List.length [32,107,101,121,32]<=BIG)) (gd (decide (List.length (s.1++[116,121,112,101,32]++x.name++[32,107,101,121,32])+List.length x.key<=BIG)) (some (s.1++[116,121,112,101,32]++x.name++[32,107,101,121,32]++x.key)))) (some (s.1++[116,121,112,101,32]++x.name))) fun x_1=>gd (decide (List.length x_1+List.length [10]<=BIG)) (zaa (zal (fun(s:List UInt8×Int)=>zab (decide (s.2<(x.fields.length:Int))) (gd (decide (0<=s.2)) (zaa x.fields[s.2.toNat]? fun x=>zaa (zod x) fun x=>gd (decide (List.length s.1+List.length x<=BIG)) (gd (zay (s.2+1)) (some (Sum.inl (s.1++x,s.2+1)))))) (some (Sum.inr (s.1,s.2)))) (x_1++[10],0)) fun(x:List UInt8×Int)=>gd (zay (s.2+1)) (some (Sum.inl (x.1,s.2+1)))))))) (some (Sum.inr (s.1,s.2)))) ([112,97,114,116,32]++d.name++[10],0)) fun(x:List UInt8×Int)=>some x.1))
def zlv:=zaj zla
theorem zne:∀d,zlv d=zla d:=congrFun (zad zla)
def zoU:TE:=⟨92,[.st .Part],[],(.str),[],zlv⟩
theorem zAZ:XO [zrx] zJM c92 [.t 2] zoU:=xq zne fun d=>by kernel_rfl
def zhs(d:Part):Option PFault:=zab (decide ((d.types.length:Int)>5)) (some (⟨6,6⟩:PFault)) (zaa (zfl d.name) fun x=>zab (!x) (some (⟨0,1⟩:PFault)) (zaa (zab ((d.types.length:Int)==0) (some true) (zaa d.types[Int.toNat 0]? fun x=>zab (x.name !=[113,117,101,114,121]) (some true) (zaa d.types[Int.toNat 0]? fun x=>some (x.key !=[])))) fun x=>zab x (some (⟨0,7⟩:PFault)) (zaa (zal (fun(s:Int×Int×Int)=>zab (decide (s.1<(d.types.length:Int))) (zaa (zlt (d,s.1)) fun x=>zab (x !=0) (gd (zay (s.1+1)) (some (Sum.inr (Sum.inr (⟨s.1+1,x⟩:PFault))))) (zaa (zal (fun(s_1:Int×Int×Int)=>gd (decide (0<=s.1)) (zaa d.types[s.1.toNat]? fun x=>zab (decide (s_1.1<(x.fields.length:Int))) (gd (decide (0<=s.1)) (zaa d.types[s.1.toNat]? fun x=>gd (decide (0<=s_1.1)) (zaa x.fields[s_1.1.toNat]? fun x=>zab (x.of==[113,117,101,114,121]) (gd (zay (s.1+1)) (some (Sum.inr (Sum.inr (Sum.inr (Sum.inr (⟨s.1+1,7⟩:PFault))))))) (gd (zay (s_1.1+1)) (some (Sum.inl (s_1.1+1,s_1.2.1,s_1.2.2))))))) (some (Sum.inr (Sum.inl (s_1.1,s_1.2.1,s_1.2.2)))))) (0,s.2.1,s.2.2)) fun(x:Int×Int×Int⊕Int×Int×Int⊕Int×Int×Int⊕PFault)=>zav x (fun d=>gd (zay (s.1+1)) (some (Sum.inl (s.1+1,d.2.1,d.2.2)))) fun r=>some r)) (some (Sum.inr (Sum.inl (s.1,s.2.1,s.2.2))))) (0,0,0)) fun(x:Int×Int×Int⊕PFault)=>zav x (fun d_1=>zaa (zlv d) fun x=>zab (decide ((x.length:Int)>1500)) (some (⟨0,6⟩:PFault)) (some (⟨0,0⟩:PFault))) fun r=>some r)))
def zfI:=zaj zhs
theorem zj8:∀d,zfI d=zhs d:=congrFun (zad zhs)
def zhI:TE:=⟨55,[.st .Part],[],(.st .PFault),[],zfI⟩
theorem zvK:XO [zoh,zoS,zoU] zJn c55 [.c 2 (some 2)] zhI:=xq zj8 fun d=>by kernel_rfl
def zrh(d:List Part×List UInt8):Option (List UInt8):=zaa (zal (fun(s:Int)=>zab (decide (s<(d.1.length:Int))) (gd (decide (0<=s)) (zaa d.1[s.toNat]? fun x=>zaa (zbX (x,d.2)) fun x=>zaa (zab (decide (x>=0)) (gd (decide (0<=s)) (zaa d.1[s.toNat]? fun x_1=>gd (decide (0<=x)) (zaa x_1.types[x.toNat]? fun x=>some (x.key !=[])))) (some false)) fun x_1=>zab x_1 (gd (decide (0<=s)) (zaa d.1[s.toNat]? fun x_2=>gd (decide (0<=x)) (zaa x_2.types[x.toNat]? fun x=>some (Sum.inr (Sum.inr x.key))))) (gd (zay (s+1)) (some (Sum.inl (s+1)))))) (some (Sum.inr (Sum.inl s)))) 0) fun(x:Int⊕List UInt8)=>zav x (fun d=>some []) fun r=>some r
def zmj:=zaj zrh
theorem zqz:∀d,zmj d=zrh d:=congrFun (zad zrh)
def zoY:TE:=⟨87,[.lst (.nm .Part),.str],[],(.str),[],zmj⟩
theorem zE7:XO [zeu] zJH c87 [.t 4] zoY:=xq zqz fun d=>by kernel_rfl
def zre(d:Part×List UInt8×List UInt8):Option (Field×Bool):=zaa (zbX (d.1,d.2.1)) fun x=>zab (decide (x<0)) (some ((⟨[],[],false,false,false,false,false,[]⟩:Field),false)) (gd (decide (0<=x)) (zaa d.1.types[x.toNat]? fun x_1=>zaa (zb4 (x_1,d.2.2)) fun x_2=>zab (decide (x_2<0)) (some ((⟨[],[],false,false,false,false,false,[]⟩:Field),false)) (gd (decide (0<=x)) (zaa d.1.types[x.toNat]? fun x=>gd (decide (0<=x_2)) (zaa x.fields[x_2.toNat]? fun x=>some (x,true))))))
def zdT:=zaj zre
theorem zqw:∀d,zdT d=zre d:=congrFun (zad zre)
def ziR:TE:=⟨28,[.st .Part,.str,.str],[],(.tup [.st .Field,.bool]),[],zdT⟩
theorem zE4:XO [zeu,zeF] zI8 c28 [.c 6 (some 8),.t 7] ziR:=xq zqw fun d=>by kernel_rfl
def zjA(d:List Part×List UInt8×List UInt8):Option (List Int):=zaa (zal (fun(s:Int×List Int)=>zab (decide (s.1<(d.1.length:Int))) (gd (decide (0<=s.1)) (zaa d.1[s.1.toNat]? fun x=>zaa (zdT (x,d.2.1,d.2.2)) fun(x:Field×Bool)=>zaa (zab x.2 (some !x.1.far) (some false)) fun x=>zaa (zab x (gd (decide (List.length s.2+List.length [s.1]<=LIM)) (some (s.2++[s.1]))) (some s.2)) fun x=>gd (zay (s.1+1)) (some (Sum.inl (s.1+1,x))))) (some (Sum.inr (s.1,s.2)))) (0,[])) fun(x:Int×List Int)=>some x.2
def zfD:=zaj zjA
theorem zlz:∀d,zfD d=zjA d:=congrFun (zad zjA)
def zhe:TE:=⟨56,[.lst (.nm .Part),.str,.str],[],(.lst (.int .i64)),[],zfD⟩
theorem zyl:XO [ziR] zJo c56 [.t 6] zhe:=xq zlz fun d=>by kernel_rfl
def zlb(d:Field×Field):Option Bool:=zaa (zab (d.1.of==d.2.of) (zab (d.1.list==d.2.list) (some (d.1.must==d.2.must)) (some false)) (some false)) fun x=>some x
def zlw:=zaj zlb
theorem znf:∀d,zlw d=zlb d:=congrFun (zad zlb)
def zoV:TE:=⟨117,[.st .Field,.st .Field],[],(.bool),[],zlw⟩
theorem zA0:XO [] zG4 zIy [.t 4] zoV:=xq znf fun d=>by kernel_rfl
def zld(d:List Part×Int×List UInt8×Field):Option Int:=zaa (zfD (d.1,d.2.2.1,d.2.2.2.name)) fun x=>zaa (zal (fun(s:Int×Int×Int)=>zab (decide (s.2.2<(d.1.length:Int))) (gd (decide (0<=s.2.2)) (zaa d.1[s.2.2.toNat]? fun x=>zaa (zdT (x,d.2.2.1,d.2.2.2.name)) fun(x:Field×Bool)=>zaa (zab x.2 (zaa (zlw (d.2.2.2,(⟨x.1.name,x.1.of,x.1.list,x.1.must,x.1.far,x.1.hidden,x.1.shared,x.1.needs⟩:Field))) fun x=>some !x) (some false)) fun x_1=>zab x_1 (some (Sum.inr (Sum.inr 3))) (zaa (zab x.2 (some x.1.shared) (some false)) fun x_2=>zaa (zab x_2 (gd (zay (s.1+1)) (some (s.1+1))) (some s.1)) fun x_3=>zaa (zab x.2 (some (decide ((x.1.needs.length:Int)>0))) (some false)) fun x=>zaa (zab x (gd (zay (s.2.1+1)) (some (s.2.1+1))) (some s.2.1)) fun x=>gd (zay (s.2.2+1)) (some (Sum.inl (x_3,x,s.2.2+1)))))) (some (Sum.inr (Sum.inl (s.1,s.2.1,s.2.2))))) (0,0,0)) fun(x_1:Int×Int×Int⊕Int)=>zav x_1 (fun d_1=>zab ((x.length:Int)==0) (some 6) (zaa (zab (decide ((x.length:Int)>1)) (zaa (zmj (d.1,d.2.2.1)) fun x_2=>zab (d.2.2.2.name !=x_2) (some (decide (d_1.1<(x.length:Int)))) (some false)) (some false)) fun x_2=>zab x_2 (some 5) (zaa (zab (decide (d_1.2.1>0)) (some (decide ((x.length:Int)>1))) (some false)) fun x=>zab x (some 7) (zaa (zal (fun(s:Int)=>zab (decide (s<(d.2.2.2.needs.length:Int))) (zaa (zal (fun(s_1:Int)=>zab (decide (s_1<(d.1.length:Int))) (gd (decide (0<=s_1)) (zaa d.1[s_1.toNat]? fun x=>gd (decide (0<=s)) (zaa d.2.2.2.needs[s.toNat]? fun x_3=>zaa (zdT (x,d.2.2.1,x_3)) fun(x:Field×Bool)=>zaa (zab x.2 (some (decide ((x.1.needs.length:Int)>0))) (some false)) fun x=>zab x (some (Sum.inr (Sum.inr (Sum.inr (Sum.inr 7))))) (gd (zay (s_1+1)) (some (Sum.inl (s_1+1))))))) (some (Sum.inr (Sum.inl s_1)))) 0) fun(x:Int⊕Int⊕Int⊕Int)=>zav x (fun d=>gd (zay (s+1)) (some (Sum.inl (s+1)))) fun r=>some r) (some (Sum.inr (Sum.inl s)))) 0) fun(x:Int⊕Int)=>zav x (fun d=>some 0) fun r=>some r)))) fun r=>some r
def zly:=zaj zld
theorem znh:∀d,zly d=zld d:=congrFun (zad zld)
def zoX:TE:=⟨88,[.lst (.nm .Part),.int .i64,.str,.st .Field],[],(.int .i64),[],zly⟩
theorem zA2:XO [zhe,ziR,zoV,zoY] zJI c88 [.t 8] zoX:=xq znh fun d=>by kernel_rfl
def zlc(d:List Part):Option CFault:=zaa (zab ((d.length:Int)==0) (some true) (some (decide ((d.length:Int)>4)))) fun x=>zab x (some (⟨0,[],[],8⟩:CFault)) (zaa (zal (fun(s:Int×Int×List UInt8×List UInt8×Int)=>zab (decide (s.1<(d.length:Int))) (gd (decide (0<=s.1)) (zaa d[s.1.toNat]? fun x=>zaa (zfI x) fun x=>zab (x.code !=0) (gd (zay (s.1+1)) (some (Sum.inr (Sum.inr (⟨s.1+1,[],[],1⟩:CFault))))) (zaa (zal (fun(s_1:Int×Int×List UInt8×List UInt8×Int)=>zab (decide (s_1.1<s.1)) (gd (decide (0<=s_1.1)) (zaa d[s_1.1.toNat]? fun x=>gd (decide (0<=s.1)) (zaa d[s.1.toNat]? fun x_1=>zab (x.name==x_1.name) (gd (zay (s.1+1)) (some (Sum.inr (Sum.inr (Sum.inr (Sum.inr (⟨s.1+1,[],[],2⟩:CFault))))))) (gd (zay (s_1.1+1)) (some (Sum.inl (s_1.1+1,s_1.2.1,s_1.2.2.1,s_1.2.2.2.1,s_1.2.2.2.2))))))) (some (Sum.inr (Sum.inl (s_1.1,s_1.2.1,s_1.2.2.1,s_1.2.2.2.1,s_1.2.2.2.2))))) (0,s.2.1,s.2.2.1,s.2.2.2.1,s.2.2.2.2)) fun(x:Int×Int×List UInt8×List UInt8×Int⊕Int×Int×List UInt8×List UInt8×Int⊕Int×Int×List UInt8×List UInt8×Int⊕CFault)=>zav x (fun d=>gd (zay (s.1+1)) (some (Sum.inl (s.1+1,d.2.1,d.2.2.1,d.2.2.2.1,d.2.2.2.2)))) fun r=>some r))) (some (Sum.inr (Sum.inl (s.1,s.2.1,s.2.2.1,s.2.2.2.1,s.2.2.2.2))))) (0,0,[],[],0)) fun(x:Int×Int×List UInt8×List UInt8×Int⊕CFault)=>zav x (fun d_1=>zaa (zal (fun(s:Int×Int×List UInt8×List UInt8×Int)=>zab (decide (s.1<(d.length:Int))) (zaa (zal (fun(s_1:Int×Int×List UInt8×List UInt8×Int)=>gd (decide (0<=s.1)) (zaa d[s.1.toNat]? fun x=>zab (decide (s_1.1<(x.types.length:Int))) (gd (decide (0<=s.1)) (zaa d[s.1.toNat]? fun x=>gd (decide (0<=s_1.1)) (zaa x.types[s_1.1.toNat]? fun x=>zaa (zab (x.key !=[]) (zaa (zmj (d,x.name)) fun x_1=>some (x.key !=x_1)) (some false)) fun x_1=>zab x_1 (gd (zay (s.1+1)) (some (Sum.inr (Sum.inr (Sum.inr (Sum.inr (⟨s.1+1,x.name,[],4⟩:CFault))))))) (zaa (zal (fun(s_2:Int×Int×List UInt8×List UInt8×Int)=>zab (decide (s_2.1<(x.fields.length:Int))) (gd (decide (0<=s_2.1)) (zaa x.fields[s_2.1.toNat]? fun x_2=>zaa (zly (d,s.1,x.name,x_2)) fun x_3=>zab (x_3 !=0) (gd (zay (s.1+1)) (gd (decide (0<=s_2.1)) (zaa x.fields[s_2.1.toNat]? fun x_4=>some (Sum.inr (Sum.inr (Sum.inr (Sum.inr (Sum.inr (Sum.inr (⟨s.1+1,x.name,x_4.name,x_3⟩:CFault)))))))))) (gd (zay (s_2.1+1)) (some (Sum.inl (s_2.1+1,s_2.2.1,s_2.2.2.1,s_2.2.2.2.1,s_2.2.2.2.2)))))) (some (Sum.inr (Sum.inl (s_2.1,s_2.2.1,s_2.2.2.1,s_2.2.2.2.1,s_2.2.2.2.2))))) (0,s_1.2.1,s_1.2.2.1,s_1.2.2.2.1,s_1.2.2.2.2)) fun(x:Int×Int×List UInt8×List UInt8×Int⊕Int×Int×List UInt8×List UInt8×Int⊕Int×Int×List UInt8×List UInt8×Int⊕Int×Int×List UInt8×List UInt8×Int⊕Int×Int×List UInt8×List UInt8×Int⊕CFault)=>zav x (fun d=>gd (zay (s_1.1+1)) (some (Sum.inl (s_1.1+1,d.2.1,d.2.2.1,d.2.2.2.1,d.2.2.2.2)))) fun r=>some r)))) (some (Sum.inr (Sum.inl (s_1.1,s_1.2.1,s_1.2.2.1,s_1.2.2.2.1,s_1.2.2.2.2)))))) (0,s.2.1,s.2.2.1,s.2.2.2.1,s.2.2.2.2)) fun(x:Int×Int×List UInt8×List UInt8×Int⊕Int×Int×List UInt8×List UInt8×Int⊕Int×Int×List UInt8×List UInt8×Int⊕CFault)=>zav x (fun d=>gd (zay (s.1+1)) (some (Sum.inl (s.1+1,d.2.1,d.2.2.1,d.2.2.2.1,d.2.2.2.2)))) fun r=>some r) (some (Sum.inr (Sum.inl (s.1,s.2.1,s.2.2.1,s.2.2.2.1,s.2.2.2.2))))) (0,d_1.2.1,d_1.2.2.1,d_1.2.2.2.1,d_1.2.2.2.2)) fun(x:Int×Int×List UInt8×List UInt8×Int⊕CFault)=>zav x (fun d=>some (⟨0,[],[],0⟩:CFault)) fun r=>some r) fun r=>some r)
def zlx:=zaj zlc
theorem zng:∀d,zlx d=zlc d:=congrFun (zad zlc)
def zoW:TE:=⟨53,[.lst (.nm .Part)],[],(.st .CFault),[],zlx⟩
theorem zA1:XO [zhI,zoY,zoX] zJl c53 [.c 2 (some 4)] zoW:=xq zng fun d=>by kernel_rfl
def zri(d:Typ×Field):Option Typ:=zaa (zb4 ((⟨d.1.name,d.1.key,d.1.fields⟩:Typ),d.2.name)) fun x=>zab (decide (x<0)) (gd (decide (List.length d.1.fields<=LIM)) (gd (decide (List.length d.2.needs<=LIM)) (gd (decide (List.length d.1.fields+List.length [(⟨d.2.name,d.2.of,d.2.list,d.2.must,false,d.2.hidden,false,d.2.needs⟩:Field)]<=LIM)) (some (⟨d.1.name,d.1.key,d.1.fields++[(⟨d.2.name,d.2.of,d.2.list,d.2.must,false,d.2.hidden,false,d.2.needs⟩:Field)]⟩:Typ))))) (gd (decide (0+List.length d.1.fields<=LIM)) (zaa (zab d.2.hidden (gd (decide (0<=x)&&decide (x<(d.1.fields.length:Int))) (zaa d.1.fields[x.toNat]? fun x_1=>some ((d.1.name,d.1.key,d.1.fields),([],[]),[],List.set d.1.fields (x.toNat) (⟨x_1.name,x_1.of,x_1.list,x_1.must,x_1.far,true,x_1.shared,x_1.needs⟩:Field)))) (some ((d.1.name,d.1.key,d.1.fields),([],[]),[],d.1.fields))) fun(x_1:(List UInt8×List UInt8×List Field)×(List UInt8×List UInt8)×List Field×List Field)=>zaa (zab (decide ((d.2.needs.length:Int)>0)) (gd (decide (0+List.length d.2.needs<=LIM)) (gd (decide (0<=x)&&decide (x<(x_1.2.2.2.length:Int))) (zaa x_1.2.2.2[x.toNat]? fun x_2=>some ((x_1.1.1,x_1.1.2.1,x_1.1.2.2),(x_1.2.1.1,x_1.2.1.2),x_1.2.2.1,List.set x_1.2.2.2 (x.toNat) (⟨x_2.name,x_2.of,x_2.list,x_2.must,x_2.far,x_2.hidden,x_2.shared,d.2.needs⟩:Field))))) (some ((x_1.1.1,x_1.1.2.1,x_1.1.2.2),(x_1.2.1.1,x_1.2.1.2),x_1.2.2.1,x_1.2.2.2))) fun(x:(List UInt8×List UInt8×List Field)×(List UInt8×List UInt8)×List Field×List Field)=>some (⟨x.1.1,x.1.2.1,x.2.2.2⟩:Typ)))
def zrl:=zaj zri
theorem zqA:∀d,zrl d=zri d:=congrFun (zad zri)
def zuC:TE:=⟨89,[.st .Typ,.st .Field],[],(.st .Typ),[],zrl⟩
theorem zE8:XO [zeF] zJJ c89 [.c 4 (some 3)] zuC:=xq zqA fun d=>by kernel_rfl
def zrg(d:List Part):Option Part:=zaa (zal (fun(s:Int×List UInt8×List Typ×List UInt8×List Typ)=>zab (decide (s.1<(d.length:Int))) (zaa (zal (fun(s_1:Int×List UInt8×List Typ×List UInt8×List Typ)=>gd (decide (0<=s.1)) (zaa d[s.1.toNat]? fun x=>zab (decide (s_1.1<(x.types.length:Int))) (gd (decide (0<=s.1)) (zaa d[s.1.toNat]? fun x=>gd (decide (0<=s_1.1)) (zaa x.types[s_1.1.toNat]? fun x=>zaa (zbX ((⟨s_1.2.2.2.1,s_1.2.2.2.2⟩:Part),x.name)) fun x_1=>zaa (zab (decide (x_1<0)) (zaa (zmj (d,x.name)) fun x_2=>gd (decide (List.length s_1.2.2.2.2+List.length [(⟨x.name,x_2,[]⟩:Typ)]<=LIM)) (some ((s_1.2.2.2.2.length:Int),s_1.2.1,s_1.2.2.1,s_1.2.2.2.1,s_1.2.2.2.2++[(⟨x.name,x_2,[]⟩:Typ)]))) (some (x_1,s_1.2.1,s_1.2.2.1,s_1.2.2.2.1,s_1.2.2.2.2))) fun(x_2:Int×List UInt8×List Typ×List UInt8×List Typ)=>zaa (zal (fun(s:Int×List UInt8×List Typ×List UInt8×List Typ)=>zab (decide (s.1<(x.fields.length:Int))) (gd (decide (0<=x_2.1)&&decide (x_2.1<(s.2.2.2.2.length:Int))) (zaa s.2.2.2.2[x_2.1.toNat]? fun x_3=>gd (decide (0<=s.1)) (zaa x.fields[s.1.toNat]? fun x=>zaa (zrl (x_3,x)) fun x=>gd (decide (0<=x_2.1)&&decide (x_2.1<(s.2.2.2.2.length:Int))) (zaa s.2.2.2.2[x_2.1.toNat]? fun x_4=>gd (zay (s.1+1)) (some (Sum.inl (s.1+1,s.2.1,s.2.2.1,s.2.2.2.1,List.set s.2.2.2.2 (x_2.1.toNat) x))))))) (some (Sum.inr (s.1,s.2.1,s.2.2.1,s.2.2.2.1,s.2.2.2.2)))) (0,x_2.2.1,x_2.2.2.1,x_2.2.2.2.1,x_2.2.2.2.2)) fun(x:Int×List UInt8×List Typ×List UInt8×List Typ)=>gd (zay (s_1.1+1)) (some (Sum.inl (s_1.1+1,x.2.1,x.2.2.1,x.2.2.2.1,x.2.2.2.2)))))) (some (Sum.inr (s_1.1,s_1.2.1,s_1.2.2.1,s_1.2.2.2.1,s_1.2.2.2.2))))) (0,s.2.1,s.2.2.1,s.2.2.2.1,s.2.2.2.2)) fun(x:Int×List UInt8×List Typ×List UInt8×List Typ)=>gd (zay (s.1+1)) (some (Sum.inl (s.1+1,x.2.1,x.2.2.1,x.2.2.2.1,x.2.2.2.2)))) (some (Sum.inr (s.1,s.2.1,s.2.2.1,s.2.2.2.1,s.2.2.2.2)))) (0,[],[],[97],[])) fun(x:Int×List UInt8×List Typ×List UInt8×List Typ)=>some (⟨x.2.2.2.1,x.2.2.2.2⟩:Part)
def zoA:=zaj zrg
theorem zqy:∀d,zoA d=zrg d:=congrFun (zad zrg)
def zuB:TE:=⟨54,[.lst (.nm .Part)],[],(.st .Part),[],zoA⟩
theorem zE6:XO [zeu,zoY,zuC] zJm c54 [.c 2 (some 2)] zuB:=xq zqy fun d=>by kernel_rfl
def zhr(d:List Part):Option (Chart×CFault):=zaa (zlx d) fun x=>zab (x.code !=0) (some ((⟨⟨[],[]⟩,[]⟩:Chart),x)) (zaa (zoA d) fun x_1=>zaa (zfI x_1) fun x_2=>zab (x_2.code !=0) (some ((⟨⟨[],[]⟩,[]⟩:Chart),(⟨0,[],[],8⟩:CFault))) (zaa (zal (fun(s:Int×List UInt8×List Typ×List Own×(Int×List UInt8×List UInt8×Int)×(List UInt8×List Typ)×List Own)=>zab (decide (s.1<(s.2.2.2.2.2.1.2.length:Int))) (gd (decide (0<=s.1)) (zaa s.2.2.2.2.2.1.2[s.1.toNat]? fun x=>zaa (zal (fun(s:Int×List UInt8×List Typ×List Own×(Int×List UInt8×List UInt8×Int)×(List UInt8×List Typ)×List Own)=>zab (decide (s.1<(x.fields.length:Int))) (gd (decide (0<=s.1)) (zaa x.fields[s.1.toNat]? fun x_3=>gd (decide (0<=s.1)) (zaa x.fields[s.1.toNat]? fun x_4=>zaa (zfD (d,x.name,x_4.name)) fun x_5=>gd (decide (List.length s.2.2.2.2.2.2+List.length [(⟨x.name,x_3.name,x_5⟩:Own)]<=LIM)) (gd (zay (s.1+1)) (some (Sum.inl (s.1+1,s.2.1,s.2.2.1,s.2.2.2.1,(s.2.2.2.2.1.1,s.2.2.2.2.1.2.1,s.2.2.2.2.1.2.2.1,s.2.2.2.2.1.2.2.2),(s.2.2.2.2.2.1.1,s.2.2.2.2.2.1.2),s.2.2.2.2.2.2++[(⟨x.name,x_3.name,x_5⟩:Own)]))))))) (some (Sum.inr (s.1,s.2.1,s.2.2.1,s.2.2.2.1,(s.2.2.2.2.1.1,s.2.2.2.2.1.2.1,s.2.2.2.2.1.2.2.1,s.2.2.2.2.1.2.2.2),(s.2.2.2.2.2.1.1,s.2.2.2.2.2.1.2),s.2.2.2.2.2.2)))) (0,s.2.1,s.2.2.1,s.2.2.2.1,(s.2.2.2.2.1.1,s.2.2.2.2.1.2.1,s.2.2.2.2.1.2.2.1,s.2.2.2.2.1.2.2.2),(s.2.2.2.2.2.1.1,s.2.2.2.2.2.1.2),s.2.2.2.2.2.2)) fun(x:Int×List UInt8×List Typ×List Own×(Int×List UInt8×List UInt8×Int)×(List UInt8×List Typ)×List Own)=>gd (zay (s.1+1)) (some (Sum.inl (s.1+1,x.2.1,x.2.2.1,x.2.2.2.1,(x.2.2.2.2.1.1,x.2.2.2.2.1.2.1,x.2.2.2.2.1.2.2.1,x.2.2.2.2.1.2.2.2),(x.2.2.2.2.2.1.1,x.2.2.2.2.2.1.2),x.2.2.2.2.2.2))))) (some (Sum.inr (s.1,s.2.1,s.2.2.1,s.2.2.2.1,(s.2.2.2.2.1.1,s.2.2.2.2.1.2.1,s.2.2.2.2.1.2.2.1,s.2.2.2.2.1.2.2.2),(s.2.2.2.2.2.1.1,s.2.2.2.2.2.1.2),s.2.2.2.2.2.2)))) (0,[],[],[],(0,[],[],0),(x_1.name,x_1.types),[])) fun(x_3:Int×List UInt8×List Typ×List Own×(Int×List UInt8×List UInt8×Int)×(List UInt8×List Typ)×List Own)=>some ((⟨⟨x_3.2.2.2.2.2.1.1,x_3.2.2.2.2.2.1.2⟩,x_3.2.2.2.2.2.2⟩:Chart),x)))
def zc9:=zaj zhr
theorem zj7:∀d,zc9 d=zhr d:=congrFun (zad zhr)
def zfW:TE:=⟨27,[.lst (.nm .Part)],[],(.tup [.st .Chart,.st .CFault]),[],zc9⟩
theorem zvJ:XO [zoW,zuB,zhI,zhe] zI7 c27 [.c 2 (some 3),.c 3 (some 4)] zfW:=xq zj7 fun d=>by kernel_rfl
def zlg(d:Part×List UInt8×List UInt8):Option Bool:=zaa (zdT (d.1,d.2.1,d.2.2)) fun(x:Field×Bool)=>zaa (zab x.2 (zab (!x.1.far) (some ((x.1.needs.length:Int)==0)) (some false)) (some false)) fun x=>some x
def ziN:=zaj zlg
theorem znk:∀d,ziN d=zlg d:=congrFun (zad zlg)
def zo0:TE:=⟨154,[.st .Part,.str,.str],[],(.bool),[],ziN⟩
theorem zA5:XO [ziR] zHt zIX [.t 6] zo0:=xq znk fun d=>by kernel_rfl
def zlf(d:Part×List UInt8):Option Bool:=zaa (zbX (d.1,d.2)) fun x=>zaa (zab (decide (x>=0)) (gd (decide (0<=x)) (zaa d.1.types[x.toNat]? fun x=>some (x.key !=[]))) (some false)) fun x=>some x
def ziM:=zaj zlf
theorem znj:∀d,ziM d=zlf d:=congrFun (zad zlf)
def zlF:TE:=⟨156,[.st .Part,.str],[],(.bool),[],ziM⟩
theorem zA4:XO [zeu] zHv zIZ [.t 4] zlF:=xq znj fun d=>by kernel_rfl
def zle(d:List Part×List UInt8×List UInt8):Option Int:=zaa (zal (fun(s:Int)=>zab (decide (s<(d.1.length:Int))) (gd (decide (0<=s)) (zaa d.1[s.toNat]? fun x=>zaa (zdT (x,d.2.1,d.2.2)) fun(x:Field×Bool)=>zaa (zab x.2 (zab (!x.1.far) (zab (d.2.1==[113,117,101,114,121]) (some true) (gd (decide (0<=s)) (zaa d.1[s.toNat]? fun x=>zaa (ziM (x,d.2.1)) fun x=>some x))) (some false)) (some false)) fun x=>zab x (some (Sum.inr (Sum.inr s))) (gd (zay (s+1)) (some (Sum.inl (s+1)))))) (some (Sum.inr (Sum.inl s)))) 0) fun(x:Int⊕Int)=>zav x (fun d=>some (-1)) fun r=>some r
def ziL:=zaj zle
theorem zni:∀d,ziL d=zle d:=congrFun (zad zle)
def zoZ:TE:=⟨155,[.lst (.nm .Part),.str,.str],[],(.int .i64),[],ziL⟩
theorem zA3:XO [ziR,zlF] zHu zIY [.t 6] zoZ:=xq zni fun d=>by kernel_rfl
def zn8(d:List Part×Int×List UInt8×List UInt8):Option Int:=zaa (zab (d.2.2.1 !=[113,117,101,114,121]) (gd (decide (0<=d.2.1)) (zaa d.1[d.2.1.toNat]? fun x=>zaa (ziN (x,d.2.2.1,d.2.2.2)) fun x=>some x)) (some false)) fun x=>zab x (some d.2.1) (zaa (ziL (d.1,d.2.2.1,d.2.2.2)) fun x=>zaa (zab (d.2.2.1==[113,117,101,114,121]) (some true) (some (decide (x<0)))) fun x_1=>zab x_1 (some x) (gd (decide (0<=x)) (zaa d.1[x.toNat]? fun x_2=>zaa (zdT (x_2,d.2.2.1,d.2.2.2)) fun(x_3:Field×Bool)=>gd (decide (0<=d.2.1)) (zaa d.1[d.2.1.toNat]? fun x_4=>zaa (ziM (x_4,d.2.2.1)) fun x_5=>zab (!x_5) (some (-1)) (zaa (zal (fun(s:Int)=>zab (decide (s<(x_3.1.needs.length:Int))) (zaa (gd (decide (0<=d.2.1)) (zaa d.1[d.2.1.toNat]? fun x=>gd (decide (0<=s)) (zaa x_3.1.needs[s.toNat]? fun x_6=>zaa (ziN (x,d.2.2.1,x_6)) fun x=>zab (!x) (gd (decide (0<=s)) (zaa x_3.1.needs[s.toNat]? fun x=>zaa (ziL (d.1,d.2.2.1,x)) fun x=>some (decide (x<0)))) (some false)))) fun x=>zab x (some (Sum.inr (Sum.inr (-1)))) (gd (zay (s+1)) (some (Sum.inl (s+1))))) (some (Sum.inr (Sum.inl s)))) 0) fun(x_6:Int⊕Int)=>zav x_6 (fun d=>some x) fun r=>some r)))))
def zoe:=zaj zn8
theorem zoC:∀d,zoe d=zn8 d:=congrFun (zad zn8)
def zry:TE:=⟨138,[.lst (.nm .Part),.int .i64,.str,.str],[],(.int .i64),[],zoe⟩
theorem zCA:XO [zo0,zoZ,ziR,zlF] zHl zIP [.t 8] zry:=xq zoC fun d=>by kernel_rfl
def zn9(d:List Stt×Stt):Option Int:=zaa (zal (fun(s:Int)=>zab (decide (s<(d.1.length:Int))) (gd (decide (0<=s)) (zaa d.1[s.toNat]? fun x=>zab (x.part==d.2.part&&(x.type==d.2.type&&true)) (some (Sum.inr (Sum.inr s))) (gd (zay (s+1)) (some (Sum.inl (s+1)))))) (some (Sum.inr (Sum.inl s)))) 0) fun(x:Int⊕Int)=>zav x (fun d=>some (-1)) fun r=>some r
def zof:=zaj zn9
theorem zoD:∀d,zof d=zn9 d:=congrFun (zad zn9)
def zrz:TE:=⟨139,[.lst (.nm .Stt),.st .Stt],[],(.int .i64),[],zof⟩
theorem zCB:XO [] zHm zIQ [.t 4] zrz:=xq zoD fun d=>by kernel_rfl
def zfd(d:List Part×Part×Int×List (List UInt8)×List Stt×List (List (List UInt8))):Option (List (List UInt8)×List Stt×List (List (List UInt8))):=gd (decide (0<=d.2.2.1)&&decide (d.2.2.1<(d.2.2.2.2.1.length:Int))) (zaa d.2.2.2.2.1[d.2.2.1.toNat]? fun x=>zaa (zbX (d.2.1,x.type)) fun x_1=>gd (decide (0<=x_1)) (zaa d.2.1.types[x_1.toNat]? fun x_2=>zaa (zal (fun(s:Int×List (List UInt8)×List Stt×List (List (List UInt8)))=>zab (decide (s.1<(x_2.fields.length:Int))) (gd (decide (0<=s.1)) (zaa x_2.fields[s.1.toNat]? fun x_3=>zab x_3.hidden (gd (zay (s.1+1)) (some (Sum.inl (s.1+1,s.2.1,s.2.2.1,s.2.2.2)))) (gd (decide (0<=d.2.2.1)&&decide (d.2.2.1<(s.2.2.2.length:Int))) (zaa s.2.2.2[d.2.2.1.toNat]? fun x_4=>gd (decide (List.length x_4<=LIM)) (gd (decide (List.length x_4+List.length [x_3.name]<=LIM)) (zaa (zoe (d.1,x.part,x.type,x_3.name)) fun x=>zab (decide (x<0)) (zaa (zab ((s.2.1.length:Int)==0) (some (x_4++[x_3.name],s.2.2.1,s.2.2.2)) (some (s.2.1,s.2.2.1,s.2.2.2))) fun(x:List (List UInt8)×List Stt×List (List (List UInt8)))=>gd (zay (s.1+1)) (some (Sum.inl (s.1+1,x.1,x.2.1,x.2.2)))) (zaa (zaa (zct x_3.of) fun x_5=>zab (!x_5) (zaa (zof (s.2.2.1,(⟨x,x_3.of⟩:Stt))) fun x=>some (decide (x<0))) (some false)) fun x_5=>zaa (zab x_5 (gd (decide (List.length s.2.2.1+List.length [(⟨x,x_3.of⟩:Stt)]<=LIM)) (gd (decide (List.length s.2.2.2+List.length [x_4++[x_3.name]]<=LIM)) (some (s.2.1,s.2.2.1++[(⟨x,x_3.of⟩:Stt)],s.2.2.2++[x_4++[x_3.name]])))) (some (s.2.1,s.2.2.1,s.2.2.2))) fun(x:List (List UInt8)×List Stt×List (List (List UInt8)))=>gd (zay (s.1+1)) (some (Sum.inl (s.1+1,x.1,x.2.1,x.2.2)))))))))) (some (Sum.inr (s.1,s.2.1,s.2.2.1,s.2.2.2)))) (0,d.2.2.2.1,d.2.2.2.2.1,d.2.2.2.2.2)) fun(x:Int×List (List UInt8)×List Stt×List (List (List UInt8)))=>some (x.2.1,x.2.2.1,x.2.2.2)))
def zfm:=zaj zfd
theorem zid:∀d,zfm d=zfd d:=congrFun (zad zfd)
def zhM:TE:=⟨107,[.mpb 0 0,.lst (.nm .Part),.st .Part,.int .i64],[.box ⟨none,[some ((.lst (.nm .Stt)),.no),some ((.lst (.lst .str)),.no),some ((.lst .str),.no)]⟩ [.own 1,.own 2,.lst .str],.arr (.nm .Stt) .no,.arr (.lst .str) .no],(.tup []),[.box ⟨none,[some ((.lst (.nm .Stt)),.no),some ((.lst (.lst .str)),.no),some ((.lst .str),.no)]⟩ [.own 3,.own 4,.lst .str],.dead,.dead,.arr (.nm .Stt) .no,.arr (.lst .str) .no],zfm⟩
theorem zsG:XO [zeu,zry,zfF,zrz] zG0 zIu [] zhM:=xq zid fun d=>by kernel_rfl
def zrj(d:List Part×Part):Option (List (List UInt8)×List Stt×List (List (List UInt8))):=zaa (zal (fun(s:Int×List (List UInt8)×List Stt×List (List (List UInt8)))=>zab (decide (s.1<(s.2.2.1.length:Int))) (zaa (zfm (d.1,d.2,s.1,s.2.1,s.2.2.1,s.2.2.2)) fun(x:List (List UInt8)×List Stt×List (List (List UInt8)))=>gd (zay (s.1+1)) (some (Sum.inl (s.1+1,x.1,x.2.1,x.2.2)))) (some (Sum.inr (s.1,s.2.1,s.2.2.1,s.2.2.2)))) (0,[],[(⟨0,[113,117,101,114,121]⟩:Stt)],[[]])) fun(x:Int×List (List UInt8)×List Stt×List (List (List UInt8)))=>some (x.2.1,x.2.2.1,x.2.2.2)
def zoB:=zaj zrj
theorem zqB:∀d,zoB d=zrj d:=congrFun (zad zrj)
def zuD:TE:=⟨79,[.lst (.nm .Part),.st .Part],[],(.mpb 0 0),[.box ⟨none,[some ((.lst (.nm .Stt)),.no),some ((.lst (.lst .str)),.no),some ((.lst .str),.no)]⟩ [.own 1,.own 2,.lst .str],.arr (.nm .Stt) .no,.arr (.lst .str) .no],zoB⟩
theorem zE9:XO [zhM] zJD c79 [.t 4] zuD:=xq zqB fun d=>by kernel_rfl
def zk0(d:List Part):Option (Bool×List (List UInt8)):=zaa (zc9 d) fun(x:Chart×CFault)=>zab (x.2.code !=0) (some (false,[])) (zaa (zoB (d,(⟨x.1.all.name,x.1.all.types⟩:Part))) fun(x:List (List UInt8)×List Stt×List (List (List UInt8)))=>gd (decide (List.length x.1<=LIM)) (some ((x.1.length:Int)==0,x.1)))
def zlh:=zaj zk0
theorem zm5:∀d,zlh d=zk0 d:=congrFun (zad zk0)
def zoL:TE:=⟨39,[.lst (.nm .Part)],[],(.tup [.bool,.lst .str]),[],zlh⟩
theorem zAO:XO [zfW,zuD] zJe c39 [.t 2,.t 3] zoL:=xq zm5 fun d=>by kernel_rfl
def zjx(d:List Int×Int):Option (List Part×List Int×Int):=zaa (zal (fun(s:Int×List Int×Int)=>zab (decide (s.1<6)) (zaa (zjD (s.2.1,s.2.2)) fun(x:List Part×List Int×Int)=>zaa (zlh x.1) fun(x_1:Bool×List (List UInt8))=>zab x_1.1 (some (Sum.inr (Sum.inr (x.1,x.2.1,x.2.2)))) (gd (zay (s.1+1)) (some (Sum.inl (s.1+1,x.2.1,x.2.2))))) (some (Sum.inr (Sum.inl (s.1,s.2.1,s.2.2))))) (0,d.1,d.2)) fun(x:Int×List Int×Int⊕List Part×List Int×Int)=>zav x (fun d=>some ([(⟨[101,97,115,116],[⟨[113,117,101,114,121],[],[⟨[117,115,101,114,115],[117,115,101,114],true,false,false,false,false,[]⟩]⟩,⟨[117,115,101,114],[105,100],[⟨[105,100],[105,110,116],false,true,false,false,false,[]⟩,⟨[110,97,109,101],[116,101,120,116],false,false,false,false,false,[]⟩]⟩]⟩:Part)],d.2.1,d.2.2)) fun r=>some r
def zg5:=zaj zjx
theorem zlp:∀d,zg5 d=zjx d:=congrFun (zad zjx)
def zmq:TE:=⟨43,[.mpb 0 0],[.box ⟨none,[some ((.lst (.int .u8)),.no),some ((.int .i64),.no)]⟩ [.lst (.int .u8),.int .i64]],(.lst (.nm .Part)),[.box ⟨none,[some ((.lst (.int .u8)),.no),some ((.int .i64),.no)]⟩ [.lst (.int .u8),.int .i64]],zg5⟩
theorem zyh:XO [zmr,zoL] zJf c43 [.t 2] zmq:=xq zlp fun d=>by kernel_rfl
def zn5(d:Field):Option ((List UInt8×List UInt8×Bool×Bool×Bool×Bool×Bool)×List (List UInt8)):=gd (decide (0+List.length d.needs<=LIM)) (some ((d.name,d.of,d.list,d.must,d.far,d.hidden,d.shared),d.needs))
def zoc:=zaj zn5
theorem zox:∀d,zoc d=zn5 d:=congrFun (zad zn5)
def zrw:TE:=⟨83,[.st .Field],[],(.agg [.str,.str,.bool,.bool,.bool,.bool,.bool,.own 0]),[.arr .str .no],zoc⟩
theorem zCw:XO [] zJF c83 [.c 2 (some 8)] zrw:=xq zox fun d=>by kernel_rfl
def zgi(d:Part):Option (List UInt8×List Typ):=zaa (zal (fun(s:Int×List UInt8×List Typ×List UInt8×List Typ)=>zab (decide (s.1<(d.types.length:Int))) (gd (decide (0<=s.1)) (zaa d.types[s.1.toNat]? fun x=>gd (decide (0<=s.1)) (zaa d.types[s.1.toNat]? fun x_1=>zaa (zal (fun(s_1:Int×List UInt8×List Typ×List UInt8×List Typ×(List UInt8×List UInt8)×List Field)=>gd (decide (0<=s.1)) (zaa d.types[s.1.toNat]? fun x=>zab (decide (s_1.1<(x.fields.length:Int))) (gd (decide (0<=s.1)) (zaa d.types[s.1.toNat]? fun x=>gd (decide (0<=s_1.1)) (zaa x.fields[s_1.1.toNat]? fun x=>zaa (zoc x) fun(x:(List UInt8×List UInt8×Bool×Bool×Bool×Bool×Bool)×List (List UInt8))=>gd (decide (List.length s_1.2.2.2.2.2.2+List.length [(⟨x.1.1,x.1.2.1,x.1.2.2.1,x.1.2.2.2.1,x.1.2.2.2.2.1,x.1.2.2.2.2.2.1,x.1.2.2.2.2.2.2,x.2⟩:Field)]<=LIM)) (gd (zay (s_1.1+1)) (some (Sum.inl (s_1.1+1,s_1.2.1,s_1.2.2.1,s_1.2.2.2.1,s_1.2.2.2.2.1,(s_1.2.2.2.2.2.1.1,s_1.2.2.2.2.2.1.2),s_1.2.2.2.2.2.2++[(⟨x.1.1,x.1.2.1,x.1.2.2.1,x.1.2.2.2.1,x.1.2.2.2.2.1,x.1.2.2.2.2.2.1,x.1.2.2.2.2.2.2,x.2⟩:Field)]))))))) (some (Sum.inr (s_1.1,s_1.2.1,s_1.2.2.1,s_1.2.2.2.1,s_1.2.2.2.2.1,(s_1.2.2.2.2.2.1.1,s_1.2.2.2.2.2.1.2),s_1.2.2.2.2.2.2))))) (0,s.2.1,s.2.2.1,s.2.2.2.1,s.2.2.2.2,(x.name,x_1.key),[])) fun(x:Int×List UInt8×List Typ×List UInt8×List Typ×(List UInt8×List UInt8)×List Field)=>gd (decide (List.length x.2.2.2.2.1+List.length [(⟨x.2.2.2.2.2.1.1,x.2.2.2.2.2.1.2,x.2.2.2.2.2.2⟩:Typ)]<=LIM)) (gd (zay (s.1+1)) (some (Sum.inl (s.1+1,x.2.1,x.2.2.1,x.2.2.2.1,x.2.2.2.2.1++[(⟨x.2.2.2.2.2.1.1,x.2.2.2.2.2.1.2,x.2.2.2.2.2.2⟩:Typ)]))))))) (some (Sum.inr (s.1,s.2.1,s.2.2.1,s.2.2.2.1,s.2.2.2.2)))) (0,[],[],d.name,[])) fun(x:Int×List UInt8×List Typ×List UInt8×List Typ)=>some (x.2.2.2.1,x.2.2.2.2)
def zeC:=zaj zgi
theorem ziJ:∀d,zeC d=zgi d:=congrFun (zad zgi)
def zgt:TE:=⟨44,[.st .Part],[],(.agg [.str,.own 0]),[.arr (.nm .Typ) (.at [(2,.at [(7,.no)])])],zeC⟩
theorem zug:XO [zrw] zJg c44 [.c 2 (some 2)] zgt:=xq ziJ fun d=>by kernel_rfl
def zk6(d:List (List UInt8)×List Int×Int):Option (List UInt8×List Int×Int):=zaa (zar ((d.1.length:Int),d.2.1,d.2.2)) fun(x:Int×List Int×Int)=>gd (decide (0<=x.1)) (zaa d.1[x.1.toNat]? fun x_1=>some (x_1,x.2.1,x.2.2))
def zdB:=zaj zk6
theorem znb:∀d,zdB d=zk6 d:=congrFun (zad zk6)
def zoR:TE:=⟨84,[.mpb 0 0,.lst .str],[.box ⟨none,[some ((.lst (.int .u8)),.no),some ((.int .i64),.no)]⟩ [.lst (.int .u8),.int .i64]],(.str),[.box ⟨none,[some ((.lst (.int .u8)),.no),some ((.int .i64),.no)]⟩ [.lst (.int .u8),.int .i64]],zdB⟩
theorem zAV:XO [zdW] zJG c84 [.t 4] zoR:=xq znb fun d=>by kernel_rfl
def zej(d:Part×List Int×Int):Option (Part×List Int×Int):=zaa (zeC d.1) fun(x:List UInt8×List Typ)=>zaa (zar ((x.2.length:Int),d.2.1,d.2.2)) fun(x_1:Int×List Int×Int)=>gd (decide (0<=x_1.1)&&decide (x_1.1<(x.2.length:Int))) (zaa x.2[x_1.1.toNat]? fun x_2=>gd (zay ((x_2.fields.length:Int)+1)) (zaa (zar ((x_2.fields.length:Int)+1,x_1.2.1,x_1.2.2)) fun(x_3:Int×List Int×Int)=>zab (decide (x_3.1<(x_2.fields.length:Int))) (gd (decide (0<=x_3.1)&&decide (x_3.1<(x_2.fields.length:Int))) (zaa x_2.fields[x_3.1.toNat]? fun x_4=>zaa (zar (9,x_3.2.1,x_3.2.2)) fun(x_5:Int×List Int×Int)=>zab (x_5.1==0) (zaa (zdB ([[110,111,110,101],[113,117,101,114,121],[116,101,120,116],[65],[117,115,101,114]],x_5.2.1,x_5.2.2)) fun(x_6:List UInt8×List Int×Int)=>gd (decide (0<=x_3.1)&&decide (x_3.1<(x_2.fields.length:Int))) (gd (decide (x_3.1.toNat=x_3.1.toNat)) (gd (decide (0<=x_1.1)&&decide (x_1.1<(x.2.length:Int))) (gd (decide (x_1.1.toNat=x_1.1.toNat)) (some ((⟨x.1,List.set x.2 (x_1.1.toNat) (⟨x_2.name,x_2.key,List.set x_2.fields (x_3.1.toNat) (⟨x_4.name,x_6.1,x_4.list,x_4.must,x_4.far,x_4.hidden,x_4.shared,x_4.needs⟩:Field)⟩:Typ)⟩:Part),x_6.2.1,x_6.2.2)))))) (zab (x_5.1==1) (gd (decide (0<=x_3.1)&&decide (x_3.1<(x_2.fields.length:Int))) (gd (decide (x_3.1.toNat=x_3.1.toNat)) (gd (decide (0<=x_1.1)&&decide (x_1.1<(x.2.length:Int))) (gd (decide (x_1.1.toNat=x_1.1.toNat)) (some ((⟨x.1,List.set x.2 (x_1.1.toNat) (⟨x_2.name,x_2.key,List.set x_2.fields (x_3.1.toNat) (⟨x_4.name,x_4.of,!x_4.list,x_4.must,x_4.far,x_4.hidden,x_4.shared,x_4.needs⟩:Field)⟩:Typ)⟩:Part),x_5.2.1,x_5.2.2)))))) (zab (x_5.1==2) (gd (decide (0<=x_3.1)&&decide (x_3.1<(x_2.fields.length:Int))) (gd (decide (x_3.1.toNat=x_3.1.toNat)) (gd (decide (0<=x_1.1)&&decide (x_1.1<(x.2.length:Int))) (gd (decide (x_1.1.toNat=x_1.1.toNat)) (some ((⟨x.1,List.set x.2 (x_1.1.toNat) (⟨x_2.name,x_2.key,List.set x_2.fields (x_3.1.toNat) (⟨x_4.name,x_4.of,x_4.list,!x_4.must,x_4.far,x_4.hidden,x_4.shared,x_4.needs⟩:Field)⟩:Typ)⟩:Part),x_5.2.1,x_5.2.2)))))) (zab (x_5.1==3) (gd (decide (0<=x_3.1)&&decide (x_3.1<(x_2.fields.length:Int))) (gd (decide (x_3.1.toNat=x_3.1.toNat)) (gd (decide (0<=x_1.1)&&decide (x_1.1<(x.2.length:Int))) (gd (decide (x_1.1.toNat=x_1.1.toNat)) (some ((⟨x.1,List.set x.2 (x_1.1.toNat) (⟨x_2.name,x_2.key,List.set x_2.fields (x_3.1.toNat) (⟨x_4.name,x_4.of,x_4.list,x_4.must,!x_4.far,x_4.hidden,x_4.shared,x_4.needs⟩:Field)⟩:Typ)⟩:Part),x_5.2.1,x_5.2.2)))))) (zab (x_5.1==4) (zaa (zdB ([[97,103,101],[122,122],[105,100],[112,114,105,99,101]],x_5.2.1,x_5.2.2)) fun(x_6:List UInt8×List Int×Int)=>gd (decide (List.length x_4.needs+List.length [x_6.1]<=LIM)) (gd (decide (0<=x_3.1)&&decide (x_3.1<(x_2.fields.length:Int))) (gd (decide (x_3.1.toNat=x_3.1.toNat)) (gd (decide (0<=x_1.1)&&decide (x_1.1<(x.2.length:Int))) (gd (decide (x_1.1.toNat=x_1.1.toNat)) (some ((⟨x.1,List.set x.2 (x_1.1.toNat) (⟨x_2.name,x_2.key,List.set x_2.fields (x_3.1.toNat) (⟨x_4.name,x_4.of,x_4.list,x_4.must,x_4.far,x_4.hidden,x_4.shared,x_4.needs++[x_6.1]⟩:Field)⟩:Typ)⟩:Part),x_6.2.1,x_6.2.2))))))) (zab (x_5.1==5) (zaa (zdB ([[105,100],[110,97,109,101],[],[102,97,114],[116,111,111,108,111,110,103,110,97,109,101],[95,97]],x_5.2.1,x_5.2.2)) fun(x_6:List UInt8×List Int×Int)=>gd (decide (0<=x_3.1)&&decide (x_3.1<(x_2.fields.length:Int))) (gd (decide (x_3.1.toNat=x_3.1.toNat)) (gd (decide (0<=x_1.1)&&decide (x_1.1<(x.2.length:Int))) (gd (decide (x_1.1.toNat=x_1.1.toNat)) (some ((⟨x.1,List.set x.2 (x_1.1.toNat) (⟨x_2.name,x_2.key,List.set x_2.fields (x_3.1.toNat) (⟨x_6.1,x_4.of,x_4.list,x_4.must,x_4.far,x_4.hidden,x_4.shared,x_4.needs⟩:Field)⟩:Typ)⟩:Part),x_6.2.1,x_6.2.2)))))) (zab (x_5.1==6) (gd (decide (0<=x_3.1)&&decide (x_3.1<(x_2.fields.length:Int))) (gd (decide (x_3.1.toNat=x_3.1.toNat)) (gd (decide (0<=x_1.1)&&decide (x_1.1<(x.2.length:Int))) (gd (decide (x_1.1.toNat=x_1.1.toNat)) (some ((⟨x.1,List.set x.2 (x_1.1.toNat) (⟨x_2.name,x_2.key,List.set x_2.fields (x_3.1.toNat) (⟨x_4.name,x_4.of,x_4.list,x_4.must,x_4.far,x_4.hidden,!x_4.shared,x_4.needs⟩:Field)⟩:Typ)⟩:Part),x_5.2.1,x_5.2.2)))))) (zab (x_5.1==7) (gd (decide (0<=x_3.1)&&decide (x_3.1<(x_2.fields.length:Int))) (gd (decide (x_3.1.toNat=x_3.1.toNat)) (gd (decide (0<=x_1.1)&&decide (x_1.1<(x.2.length:Int))) (gd (decide (x_1.1.toNat=x_1.1.toNat)) (some ((⟨x.1,List.set x.2 (x_1.1.toNat) (⟨x_2.name,x_2.key,List.set x_2.fields (x_3.1.toNat) (⟨x_4.name,x_4.of,x_4.list,x_4.must,x_4.far,!x_4.hidden,x_4.shared,x_4.needs⟩:Field)⟩:Typ)⟩:Part),x_5.2.1,x_5.2.2)))))) (gd (decide (List.length (List.set x_2.fields (x_3.1.toNat) x_4)<=LIM)) (gd (decide (List.length (List.set x_2.fields (x_3.1.toNat) x_4)+List.length [x_4]<=LIM)) (gd (decide (0<=x_3.1)&&decide (x_3.1<(↑(List.length (List.set x_2.fields (x_3.1.toNat) x_4++[x_4])):Int))) (zaa (List.set x_2.fields (x_3.1.toNat) x_4++[x_4])[x_3.1.toNat]? fun x_6=>gd (decide (0<=x_1.1)&&decide (x_1.1<(x.2.length:Int))) (gd (decide (x_1.1.toNat=x_1.1.toNat)) (some ((⟨x.1,List.set x.2 (x_1.1.toNat) (⟨x_2.name,x_2.key,List.set (List.set x_2.fields (x_3.1.toNat) x_4++[x_4]) (x_3.1.toNat) x_4⟩:Typ)⟩:Part),x_5.2.1,x_5.2.2)))))))))))))))) (zaa (zar (5,x_3.2.1,x_3.2.2)) fun(x_4:Int×List Int×Int)=>zab (x_4.1==0) (zaa (zdB ([[],[105,100],[110,97,109,101],[97,103,101]],x_4.2.1,x_4.2.2)) fun(x_5:List UInt8×List Int×Int)=>gd (decide (0<=x_1.1)&&decide (x_1.1<(↑(List.length (List.set x.2 (x_1.1.toNat) x_2)):Int))) (zaa (List.set x.2 (x_1.1.toNat) x_2)[x_1.1.toNat]? fun x_6=>some ((⟨x.1,List.set (List.set x.2 (x_1.1.toNat) x_2) (x_1.1.toNat) (⟨x_6.name,x_5.1,x_6.fields⟩:Typ)⟩:Part),x_5.2.1,x_5.2.2))) (zab (x_4.1==1) (gd (decide (List.length (List.set x.2 (x_1.1.toNat) x_2)+List.length [x_2]<=LIM)) (some ((⟨x.1,List.set x.2 (x_1.1.toNat) x_2++[x_2]⟩:Part),x_4.2.1,x_4.2.2))) (zab (x_4.1==2) (zaa (zdB ([[],[112,97,114,116],[65]],x_4.2.1,x_4.2.2)) fun(x_5:List UInt8×List Int×Int)=>some ((⟨x_5.1,List.set x.2 (x_1.1.toNat) x_2⟩:Part),x_5.2.1,x_5.2.2)) (zab (x_4.1==3) (zaa (zdB ([[113,117,101,114,121],[117,115,101,114],[105,110,116],[120]],x_4.2.1,x_4.2.2)) fun(x_5:List UInt8×List Int×Int)=>gd (decide (0<=x_1.1)&&decide (x_1.1<(↑(List.length (List.set x.2 (x_1.1.toNat) x_2)):Int))) (zaa (List.set x.2 (x_1.1.toNat) x_2)[x_1.1.toNat]? fun x_6=>some ((⟨x.1,List.set (List.set x.2 (x_1.1.toNat) x_2) (x_1.1.toNat) (⟨x_5.1,x_6.key,x_6.fields⟩:Typ)⟩:Part),x_5.2.1,x_5.2.2))) (gd (decide (0<=1)&&decide (1<=(↑(List.length (List.set x.2 (x_1.1.toNat) x_2)):Int))&&decide ((↑(List.length (List.set x.2 (x_1.1.toNat) x_2)):Int)<=(↑(List.length (List.set x.2 (x_1.1.toNat) x_2)):Int))) (some ((⟨x.1,List.take (Int.toNat (↑(List.length (List.set x.2 (x_1.1.toNat) x_2)):Int)-Int.toNat 1) (List.drop 1 (List.set x.2 (x_1.1.toNat) x_2))⟩:Part),x_4.2.1,x_4.2.2)))))))))
def zep:=zaj zej
theorem zg6:∀d,zep d=zej d:=congrFun (zad zej)
def zgP:TE:=⟨46,[.mpb 0 0,.st .Part],[.box ⟨none,[some ((.lst (.int .u8)),.no),some ((.int .i64),.no)]⟩ [.lst (.int .u8),.int .i64]],(.st .Part),[.box ⟨none,[some ((.lst (.int .u8)),.no),some ((.int .i64),.no)]⟩ [.lst (.int .u8),.int .i64]],zep⟩
theorem zqv:XO [zgt,zdW,zoR] zJi c46 [.c 4 (some 2)] zgP:=xq zg6 fun d=>by kernel_rfl
def zk5(d:List Int×Int):Option ((List Part×List Part)×List Int×Int):=zaa (zg5 (d.1,d.2)) fun(x:List Part×List Int×Int)=>zaa (zal (fun(s:Int×(List Int×Int)×List Part)=>zab (decide (s.1<(x.1.length:Int))) (gd (decide (0<=s.1)) (zaa x.1[s.1.toNat]? fun x=>zaa (zeC x) fun(x:List UInt8×List Typ)=>gd (decide (List.length s.2.2+List.length [(⟨x.1,x.2⟩:Part)]<=LIM)) (gd (zay (s.1+1)) (some (Sum.inl (s.1+1,(s.2.1.1,s.2.1.2),s.2.2++[(⟨x.1,x.2⟩:Part)])))))) (some (Sum.inr (s.1,(s.2.1.1,s.2.1.2),s.2.2)))) (0,(x.2.1,x.2.2),[])) fun(x_1:Int×(List Int×Int)×List Part)=>zaa (zar ((x_1.2.2.length:Int),x_1.2.1.1,x_1.2.1.2)) fun(x_2:Int×List Int×Int)=>zaa (zar (6,x_2.2.1,x_2.2.2)) fun(x_3:Int×List Int×Int)=>zab (x_3.1==0) (zaa (zg5 (x_3.2.1,x_3.2.2)) fun(x_4:List Part×List Int×Int)=>some ((x.1,x_4.1),x_4.2.1,x_4.2.2)) (zab (x_3.1==1) (gd (decide (0<=x_2.1)&&decide (x_2.1<(x_1.2.2.length:Int))) (zaa x_1.2.2[x_2.1.toNat]? fun x_4=>zaa (zep (x_4,x_3.2.1,x_3.2.2)) fun(x_5:Part×List Int×Int)=>gd (decide (0<=x_2.1)&&decide (x_2.1<(x_1.2.2.length:Int))) (zaa x_1.2.2[x_2.1.toNat]? fun x_6=>some ((x.1,List.set x_1.2.2 (x_2.1.toNat) (⟨x_5.1.name,x_5.1.types⟩:Part)),x_5.2.1,x_5.2.2)))) (zab (x_3.1==2) (zaa x_1.2.2[x_2.1.toNat]? fun x_4=>zaa x_4.types[0]? fun x_5=>gd (decide (0<=x_2.1)&&decide (x_2.1<(x_1.2.2.length:Int))) (gd (decide (x_2.1.toNat=x_2.1.toNat)) (gd (decide (0<=x_2.1)&&decide (x_2.1<(x_1.2.2.length:Int))) (gd (decide (x_2.1.toNat=x_2.1.toNat)) (gd (decide (0<=0)&&decide (0<(x_4.types.length:Int))) (gd (decide (List.length x_5.fields+List.length [(⟨[109,111,114,101],[116,101,120,116],false,false,false,false,false,[]⟩:Field)]<=LIM)) (gd (decide (0<=0)&&decide (0<(x_4.types.length:Int))) (some ((x.1,List.set x_1.2.2 (x_2.1.toNat) (⟨x_4.name,List.set x_4.types 0 (⟨x_5.name,x_5.key,x_5.fields++[(⟨[109,111,114,101],[116,101,120,116],false,false,false,false,false,[]⟩:Field)]⟩:Typ)⟩:Part)),x_3.2.1,x_3.2.2))))))))) (zab (x_3.1==3) (gd (decide (0<=0)&&decide (0<(x_1.2.2.length:Int))) (zaa x_1.2.2[0]? fun x_4=>gd (zay ((x_1.2.2.length:Int)-1)) (gd (decide (0<=(x_1.2.2.length:Int)-1)&&decide ((x_1.2.2.length:Int)-1<(x_1.2.2.length:Int))) (zaa x_1.2.2[Int.toNat ((x_1.2.2.length:Int)-1)]? fun x_5=>gd (decide (0<=0)&&decide (0<(x_1.2.2.length:Int))) (zaa x_1.2.2[0]? fun x_6=>gd (zay ((↑(List.length (List.set x_1.2.2 0 x_5)):Int)-1)) (gd (decide (0<=(↑(List.length (List.set x_1.2.2 0 x_5)):Int)-1)&&decide ((↑(List.length (List.set x_1.2.2 0 x_5)):Int)-1<(↑(List.length (List.set x_1.2.2 0 x_5)):Int))) (zaa (List.set x_1.2.2 0 x_5)[Int.toNat ((↑(List.length (List.set x_1.2.2 0 x_5)):Int)-1)]? fun x_7=>some ((x.1,List.set (List.set x_1.2.2 0 x_5) (Int.toNat ((↑(List.length (List.set x_1.2.2 0 x_5)):Int)-1)) x_4),x_3.2.1,x_3.2.2)))))))) (zab (x_3.1==4) (gd (decide (0<=x_2.1)&&decide (x_2.1<(x_1.2.2.length:Int))) (zaa x_1.2.2[x_2.1.toNat]? fun x_4=>some ((x.1,List.set x_1.2.2 (x_2.1.toNat) (⟨[110,101,119],x_4.types⟩:Part)),x_3.2.1,x_3.2.2))) (some ((x.1,x_1.2.2),x_3.2.1,x_3.2.2))))))
def zls:=zaj zk5
theorem zna:∀d,zls d=zk5 d:=congrFun (zad zk5)
def zoQ:TE:=⟨21,[.mpb 0 0],[.box ⟨none,[some ((.lst (.int .u8)),.no),some ((.int .i64),.no)]⟩ [.lst (.int .u8),.int .i64]],(.tup [.lst (.nm .Part),.lst (.nm .Part)]),[.box ⟨none,[some ((.lst (.int .u8)),.no),some ((.int .i64),.no)]⟩ [.lst (.int .u8),.int .i64]],zls⟩
theorem zAU:XO [zmq,zgt,zdW,zgP] zI2 c21 [.t 2,.t 3] zoQ:=xq zna fun d=>by kernel_rfl
def zcO(d:List Int):Option (List Part×List Part):=zaa (zob d) fun(x:List Int×Int)=>zaa (zls (x.1,x.2)) fun(x:(List Part×List Part)×List Int×Int)=>some (x.1.1,x.1.2)
def zcZ:=zaj zcO
theorem zfH:∀d,zcZ d=zcO d:=congrFun (zad zcO)
def zeO:TE:=⟨6,[.lst (.int .u8)],[],(.tup [.lst (.nm .Part),.lst (.nm .Part)]),[],zcZ⟩
theorem znR:XO [zrv,zoQ] cy6 c6 [.t 2,.t 3] zeO:=xq zfH fun d=>by kernel_rfl
def zvR(d:Int×Int×Int):Option Bool:=zaa (zab (decide (d.1>=d.2.1)) (some (decide (d.1<=d.2.2))) (some false)) fun x=>some x
def zli:=zaj zvR
theorem zsQ:∀d,zli d=zvR d:=congrFun (zad zvR)
def zs8:TE:=⟨59,[.int .i64,.int .i64,.int .i64],[],(.bool),[],zli⟩
theorem zGw:XO [] zJr c59 [.t 6] zs8:=xq zsQ fun d=>by kernel_rfl
def zjt(d:List UInt8):Option Bool:=zaa (zal (fun(s:Int)=>zab (decide (s<(↑(List.length (List.map zaB d)):Int))) (gd (decide (0<=s)) (zaa (List.map zaB d)[s.toNat]? fun x=>zaa (zaa (zli (IntKind.wrap IntKind.i64 x,97,122)) fun x_1=>zab (!x_1) (zab (x !=95) (zab (s==0) (some true) (zaa (zli (IntKind.wrap IntKind.i64 x,48,57)) fun x=>some !x)) (some false)) (some false)) fun x=>zab x (some (Sum.inr (Sum.inr false))) (gd (zay (s+1)) (some (Sum.inl (s+1)))))) (some (Sum.inr (Sum.inl s)))) 0) fun(x:Int⊕Bool)=>zav x (fun d_1=>zaa (zli ((d.length:Int),1,9)) fun x=>some x) fun r=>some r
def zjB:=zaj zjt
theorem zlk:∀d,zjB d=zjt d:=congrFun (zad zjt)
def zmn:TE:=⟨125,[.str],[],(.bool),[],zjB⟩
theorem zyd:XO [zs8] zHb zIF [.t 2] zmn:=xq zlk fun d=>by kernel_rfl
def zaI(d:List (List UInt8)×List UInt8):Option Int:=zaa (zal (fun(s:Int)=>zab (decide (s<(d.1.length:Int))) (gd (decide (0<=s)) (zaa d.1[s.toNat]? fun x=>zab (d.2==x) (some (Sum.inr (Sum.inr s))) (gd (zay (s+1)) (some (Sum.inl (s+1)))))) (some (Sum.inr (Sum.inl s)))) 0) fun(x:Int⊕Int)=>zav x (fun d=>some (-1)) fun r=>some r
def zaL:=zaj zaI
theorem zbt:∀d,zaL d=zaI d:=congrFun (zad zaI)
def zaV:TE:=⟨147,[.lst .str,.str],[],(.int .i64),[],zaL⟩
theorem zfC:XO [] zHp zIT [.t 4] zaV:=xq zbt fun d=>by kernel_rfl
def zaz(d:List (List UInt8)×List UInt8):Option Bool:=zaa (zaL (d.1,d.2)) fun x=>some (decide (x>=0))
def zas:=zaj zaz
theorem za1:∀d,zas d=zaz d:=congrFun (zad zaz)
def zaA:TE:=⟨126,[.lst .str,.str],[],(.bool),[],zas⟩
theorem zeb:XO [zaV] zHc zIG [.t 4] zaA:=xq za1 fun d=>by kernel_rfl
def zjs(d:List UInt8):Option Bool:=zaa (zaa (zjB d) fun x=>zab x (zab (decide ((d.length:Int)<=8)) (zaa d[Int.toNat 0]? fun x=>zab (zaB x !=95) (zaa (zas ([[105,110,116],[116,101,120,116],[98,111,111,108],[112,97,114,116],[116,121,112,101],[107,101,121],[102,97,114],[104,105,100,100,101,110],[115,104,97,114,101,100],[110,101,101,100,115]],d)) fun x=>some !x) (some false)) (some false)) (some false)) fun x=>some x
def zcs:=zaj zjs
theorem zlj:∀d,zcs d=zjs d:=congrFun (zad zjs)
def zfE:TE:=⟨101,[.str],[],(.bool),[],zcs⟩
theorem zyc:XO [zmn,zaA] zGX zIr [.t 2] zfE:=xq zlj fun d=>by kernel_rfl
def zdt(d:Typ×List UInt8):Option Bool:=some (d.1.name==d.2)
def zb2:=zaj zdt
theorem zgm:∀d,zb2 d=zdt d:=congrFun (zad zdt)
def zdC:TE:=⟨123,[.st .Typ,.ip [.str]],[],(.bool),[],zb2⟩
theorem zp0:XO [] zHa zIE [.t 3] zdC:=xq zgm fun d=>by kernel_rfl
def zcV(d:List Typ×List UInt8):Option Int:=zaa (zal (fun(s:Int)=>zab (decide (s<(d.1.length:Int))) (gd (decide (0<=s)) (zaa d.1[s.toNat]? fun x=>zaa (zb2 (x,d.2)) fun x=>zab x (some (Sum.inr (Sum.inr s))) (gd (zay (s+1)) (some (Sum.inl (s+1)))))) (some (Sum.inr (Sum.inl s)))) 0) fun(x:Int⊕Int)=>zav x (fun d=>some (-1)) fun r=>some r
def zc3:=zaj zcV
theorem zfR:∀d,zc3 d=zcV d:=congrFun (zad zcV)
def zeR:TE:=⟨65,[.lst (.nm .Typ),.fn 123 [.ip [.str]]],[],(.int .i64),[],zc3⟩
theorem znY:XO [zdC] zIi c65 [.t 4] zeR:=xq zfR fun d=>by kernel_rfl
def zfa(d:Part×List UInt8):Option (Typ×Bool):=zaa (zc3 (d.1.types,d.2)) fun x=>zab (decide (x<0)) (some ((⟨[],[],[]⟩:Typ),false)) (gd (decide (0<=x)) (zaa d.1.types[x.toNat]? fun x=>some (x,true)))
def zbb:=zaj zfa
theorem zia:∀d,zbb d=zfa d:=congrFun (zad zfa)
def zcA:TE:=⟨94,[.st .Part,.str],[],(.tup [.st .Typ,.bool]),[],zbb⟩
theorem zsD:XO [zeR,zdC] zJO c94 [.c 4 (some 3),.t 5] zcA:=xq zia fun d=>by kernel_rfl
def zcQ(d:Field):Option Bool:=zaa (zab (d.of==[105,110,116]) (some true) (zab (d.of==[116,101,120,116]) (some true) (some (d.of==[98,111,111,108])))) fun x=>some x
def zbI:=zaj zcQ
theorem zfK:∀d,zbI d=zcQ d:=congrFun (zad zcQ)
def zc7:TE:=⟨110,[.st .Field],[],(.bool),[],zbI⟩
theorem znT:XO [] zG1 zIv [.t 2] zc7:=xq zfK fun d=>by kernel_rfl
def zbU(d:List UInt8):Option Bool:=zaa (zcs d) fun x=>some !x
def zbc:=zaj zbU
theorem zez:∀d,zbc d=zbU d:=congrFun (zad zbU)
def zbj:TE:=⟨148,[.str],[],(.bool),[],zbc⟩
theorem zmg:XO [zfE] zHq zIU [.t 2] zbj:=xq zez fun d=>by kernel_rfl
def zbA(d:List (List UInt8)):Option Int:=zaa (zal (fun(s:Int)=>zab (decide (s<(d.length:Int))) (gd (decide (0<=s)) (zaa d[s.toNat]? fun x=>zaa (zbc x) fun x=>zab x (some (Sum.inr (Sum.inr s))) (gd (zay (s+1)) (some (Sum.inl (s+1)))))) (some (Sum.inr (Sum.inl s)))) 0) fun(x:Int⊕Int)=>zav x (fun d=>some (-1)) fun r=>some r
def zbD:=zaj zbA
theorem zdO:∀d,zbD d=zbA d:=congrFun (zad zbA)
def zde:TE:=⟨124,[.lst .str,.fn 148 []],[],(.int .i64),[],zbD⟩
theorem zkX:XO [zbj] zFz zIe [.t 4] zde:=xq zdO fun d=>by kernel_rfl
def zby(d:List (List UInt8)):Option Bool:=zaa (zbD d) fun x=>some (decide (x>=0))
def zaY:=zaj zby
theorem zdM:∀d,zaY d=zby d:=congrFun (zad zby)
def zdc:TE:=⟨97,[.lst .str,.fn 148 []],[],(.bool),[],zaY⟩
theorem zkV:XO [zde,zbj] zIk c97 [.t 4] zdc:=xq zdM fun d=>by kernel_rfl
def zbV(d:Field):Option Bool:=zaa (zaa (zcs d.name) fun x=>zab (!x) (some true) (zaa (zcs d.of) fun x=>zab (!x) (zaa (zbI d) fun x=>zab (!x) (some true) (zaa (zaY d.needs) fun x=>some x)) (zaa (zaY d.needs) fun x=>some x))) fun x=>some x
def zbd:=zaj zbV
theorem zeA:∀d,zbd d=zbV d:=congrFun (zad zbV)
def zbk:TE:=⟨149,[.st .Field,.ip [.fn 148 []]],[],(.bool),[],zbd⟩
theorem zmh:XO [zfE,zc7,zdc,zbj] zHr zIV [.t 3] zbk:=xq zeA fun d=>by kernel_rfl
def zbB(d:List Field):Option Int:=zaa (zal (fun(s:Int)=>zab (decide (s<(d.length:Int))) (gd (decide (0<=s)) (zaa d[s.toNat]? fun x=>zaa (zbd x) fun x=>zab x (some (Sum.inr (Sum.inr s))) (gd (zay (s+1)) (some (Sum.inl (s+1)))))) (some (Sum.inr (Sum.inl s)))) 0) fun(x:Int⊕Int)=>zav x (fun d=>some (-1)) fun r=>some r
def zbE:=zaj zbB
theorem zdP:∀d,zbE d=zbB d:=congrFun (zad zbB)
def zdf:TE:=⟨98,[.lst (.nm .Field),.fn 149 [.ip [.fn 148 []]]],[],(.int .i64),[],zbE⟩
theorem zkY:XO [zbk] zDu c98 [.t 4] zdf:=xq zdP fun d=>by kernel_rfl
def zbz(d:List Field):Option Bool:=zaa (zbE d) fun x=>some (decide (x>=0))
def zaZ:=zaj zbz
theorem zdN:∀d,zaZ d=zbz d:=congrFun (zad zbz)
def zdd:TE:=⟨68,[.lst (.nm .Field),.fn 149 [.ip [.fn 148 []]]],[],(.bool),[],zaZ⟩
theorem zkW:XO [zdf,zbk] zFb c68 [.t 4] zdd:=xq zdN fun d=>by kernel_rfl
def zcR(d:Typ):Option Bool:=zaa (zaa (zcs d.name) fun x=>zab (!x) (some true) (zab (d.key !=[]) (zaa (zcs d.key) fun x=>zab (!x) (some true) (zaa (zli ((d.fields.length:Int),1,8)) fun x=>zab (!x) (some true) (zaa (zaZ d.fields) fun x=>some x))) (zaa (zli ((d.fields.length:Int),1,8)) fun x=>zab (!x) (some true) (zaa (zaZ d.fields) fun x=>some x)))) fun x=>some x
def zc1:=zaj zcR
theorem zfL:∀d,zc1 d=zcR d:=congrFun (zad zcR)
def zeP:TE:=⟨128,[.st .Typ],[],(.bool),[],zc1⟩
theorem znU:XO [zfE,zs8,zdd,zbk] zHe zII [.t 2] zeP:=xq zfL fun d=>by kernel_rfl
def zeh(d:Typ):Option (List (List UInt8)):=zaa (zal (fun(s:Int×List (List UInt8))=>zab (decide (s.1<(d.fields.length:Int))) (gd (decide (0<=s.1)) (zaa d.fields[s.1.toNat]? fun x=>gd (decide (List.length s.2+List.length [x.name]<=LIM)) (gd (zay (s.1+1)) (some (Sum.inl (s.1+1,s.2++[x.name])))))) (some (Sum.inr (s.1,s.2)))) (0,[])) fun(x:Int×List (List UInt8))=>some x.2
def zen:=zaj zeh
theorem zgZ:∀d,zen d=zeh d:=congrFun (zad zeh)
def zgN:TE:=⟨130,[.st .Typ],[],(.lst .str),[],zen⟩
theorem zqt:XO [] zHg zIK [.t 2] zgN:=xq zgZ fun d=>by kernel_rfl
def zk2(d:List (List UInt8)):Option Bool:=zaa (zal (fun(s:Int)=>zab (decide (s<(d.length:Int))) (gd (decide (0<=s)) (zaa d[s.toNat]? fun x=>gd (decide (0<=0)&&decide (0<=s)&&decide (s<=(d.length:Int))) (zaa (zas (List.take (s.toNat-Int.toNat 0) (List.drop (Int.toNat 0) d),x)) fun x=>zab x (some (Sum.inr (Sum.inr true))) (gd (zay (s+1)) (some (Sum.inl (s+1))))))) (some (Sum.inr (Sum.inl s)))) 0) fun(x:Int⊕Bool)=>zav x (fun d=>some false) fun r=>some r
def zln:=zaj zk2
theorem zm7:∀d,zln d=zk2 d:=congrFun (zad zk2)
def zoN:TE:=⟨129,[.lst .str],[],(.bool),[],zln⟩
theorem zAR:XO [zaA] zHf zIJ [.t 2] zoN:=xq zm7 fun d=>by kernel_rfl
def zbm(d:Field×Part):Option Bool:=zaa (zbb (d.2,d.1.of)) fun(x:Typ×Bool)=>zaa (zaa (zbI d.1) fun x_1=>zab (!x_1) (some !x.2) (some false)) fun x=>some x
def zbo:=zaj zbm
theorem zdx:∀d,zbo d=zbm d:=congrFun (zad zbm)
def zaR:TE:=⟨127,[.st .Field,.ep .Part],[],(.bool),[],zbo⟩
theorem zj5:XO [zcA,zc7] zHd zIH [.t 3] zaR:=xq zdx fun d=>by kernel_rfl
def za7(d:List Field×Part):Option Int:=zaa (zal (fun(s:Int)=>zab (decide (s<(d.1.length:Int))) (gd (decide (0<=s)) (zaa d.1[s.toNat]? fun x=>zaa (zbo (x,d.2)) fun x=>zab x (some (Sum.inr (Sum.inr s))) (gd (zay (s+1)) (some (Sum.inl (s+1)))))) (some (Sum.inr (Sum.inl s)))) 0) fun(x:Int⊕Int)=>zav x (fun d=>some (-1)) fun r=>some r
def zbh:=zaj za7
theorem zdn:∀d,zbh d=za7 d:=congrFun (zad za7)
def zca:TE:=⟨98,[.lst (.nm .Field),.fn 127 [.ep .Part]],[],(.int .i64),[],zbh⟩
theorem zjp:XO [zaR] zDu c98 [.t 4] zca:=xq zdn fun d=>by kernel_rfl
def za5(d:List Field×Part):Option Bool:=zaa (zbh (d.1,d.2)) fun x=>some (decide (x>=0))
def zbf:=zaj za5
theorem zdl:∀d,zbf d=za5 d:=congrFun (zad za5)
def zb8:TE:=⟨68,[.lst (.nm .Field),.fn 127 [.ep .Part]],[],(.bool),[],zbf⟩
theorem zjn:XO [zca,zaR] zFb c68 [.t 4] zb8:=xq zdl fun d=>by kernel_rfl
def zdv(d:Field×List UInt8):Option Bool:=some (d.1.name==d.2)
def zbq:=zaj zdv
theorem zgo:∀d,zbq d=zdv d:=congrFun (zad zdv)
def zb6:TE:=⟨99,[.st .Field,.ip [.str]],[],(.bool),[],zbq⟩
theorem zp2:XO [] zJR c99 [.t 3] zb6:=xq zgo fun d=>by kernel_rfl
def zbH(d:List Field×List UInt8):Option Int:=zaa (zal (fun(s:Int)=>zab (decide (s<(d.1.length:Int))) (gd (decide (0<=s)) (zaa d.1[s.toNat]? fun x=>zaa (zbq (x,d.2)) fun x=>zab x (some (Sum.inr (Sum.inr s))) (gd (zay (s+1)) (some (Sum.inl (s+1)))))) (some (Sum.inr (Sum.inl s)))) 0) fun(x:Int⊕Int)=>zav x (fun d=>some (-1)) fun r=>some r
def za3:=zaj zbH
theorem zda:∀d,za3 d=zbH d:=congrFun (zad zbH)
def zc8:TE:=⟨98,[.lst (.nm .Field),.fn 99 [.ip [.str]]],[],(.int .i64),[],za3⟩
theorem znZ:XO [zb6] zDu c98 [.t 4] zc8:=xq zda fun d=>by kernel_rfl
def zfb(d:Typ×List UInt8):Option (Field×Bool):=zaa (za3 (d.1.fields,d.2)) fun x=>zab (decide (x<0)) (some ((⟨[],[],false,false,false,false,false,[]⟩:Field),false)) (gd (decide (0<=x)) (zaa d.1.fields[x.toNat]? fun x=>some (x,true)))
def zbe:=zaj zfb
theorem zib:∀d,zbe d=zfb d:=congrFun (zad zfb)
def zcB:TE:=⟨67,[.st .Typ,.str],[],(.tup [.st .Field,.bool]),[],zbe⟩
theorem zsE:XO [zc8,zb6] zIj c67 [.c 4 (some 8),.t 5] zcB:=xq zib fun d=>by kernel_rfl
def zck(d:(List UInt8×List UInt8)×List UInt8×List Field):Option ((Field×Bool)×List Field):=zaa (za3 (d.2.2,d.2.1)) fun x=>zab (decide (x<0)) (some (((⟨[],[],false,false,false,false,false,[]⟩:Field),false),d.2.2)) (gd (decide (0<=x)&&decide (x<(d.2.2.length:Int))) (zaa d.2.2[x.toNat]? fun x=>some ((x,true),d.2.2)))
def zcr:=zaj zck
theorem zeY:∀d,zcr d=zck d:=congrFun (zad zck)
def zdV:TE:=⟨67,[.agg [.str,.str,.own 0],.str],[.arr (.nm .Field) .no],(.tup [.st .Field,.bool]),[.arr (.nm .Field) .no],zcr⟩
theorem zmZ:XO [zc8,zb6] zIj c67 [.c 4 (some 8),.t 5] zdV:=xq zeY fun d=>by kernel_rfl
def zds(d:Field):Option Bool:=some (decide ((d.needs.length:Int)>0))
def zaX:=zaj zds
theorem zgl:∀d,zaX d=zds d:=congrFun (zad zds)
def zbu:TE:=⟨100,[.st .Field],[],(.bool),[],zaX⟩
theorem zpZ:XO [] zGW zIq [.t 2] zbu:=xq zgl fun d=>by kernel_rfl
def zbS(d:Field):Option Bool:=zaa (zab (d.of==[105,110,116]) (zab (!d.list) (zaa (zaX d) fun x=>some !x) (some false)) (some false)) fun x=>some x
def zba:=zaj zbS
theorem zex:∀d,zba d=zbS d:=congrFun (zad zbS)
def zbY:TE:=⟨150,[.st .Field],[],(.bool),[],zba⟩
theorem zme:XO [zbu] zHs zIW [.t 2] zbY:=xq zex fun d=>by kernel_rfl
def zdu(d:Typ):Option Bool:=zab (d.key==[]) (some false) (zaa (zbe (d,d.key)) fun(x:Field×Bool)=>zaa (zab (!x.2) (some true) (zaa (zba (⟨x.1.name,x.1.of,x.1.list,x.1.must,x.1.far,x.1.hidden,x.1.shared,x.1.needs⟩:Field)) fun x_1=>zab (!x_1) (some true) (zab (!x.1.must) (some true) (zab x.1.far (some true) (some x.1.hidden))))) fun x=>some x)
def zdz:=zaj zdu
theorem zgn:∀d,zdz d=zdu d:=congrFun (zad zdu)
def zfX:TE:=⟨131,[.st .Typ],[],(.bool),[],zdz⟩
theorem zp1:XO [zcB,zbY] zHh zIL [.t 2] zfX:=xq zgn fun d=>by kernel_rfl
def zcS(d:Typ×Field):Option Bool:=zaa (zab d.2.far (some d.2.shared) (some false)) fun x=>zab x (some true) (zaa (zaX d.2) fun x=>zab (!x) (some false) (zaa (zab (d.2.of !=[105,110,116]) (some true) (zab d.2.list (some true) (zab d.2.far (some true) (zab d.2.must (some true) (zab (d.2.name==d.1.key) (some true) (some (d.1.key==[]))))))) fun x=>zab x (some true) (zaa (zal (fun(s:Int)=>zab (decide (s<(d.2.needs.length:Int))) (gd (decide (0<=s)) (zaa d.2.needs[s.toNat]? fun x=>zaa (zbe (d.1,x)) fun(x_1:Field×Bool)=>zaa (zab (!x_1.2) (some true) (zaa (zba (⟨x_1.1.name,x_1.1.of,x_1.1.list,x_1.1.must,x_1.1.far,x_1.1.hidden,x_1.1.shared,x_1.1.needs⟩:Field)) fun x_2=>zab (!x_2) (some true) (zab (decide (s>0)) (gd (zay (s-1)) (gd (decide (0<=s-1)) (zaa d.2.needs[Int.toNat (s-1)]? fun x_3=>some (Op.bytesLess x x_3 ||x==x_3)))) (some false)))) fun x=>zab x (some (Sum.inr (Sum.inr true))) (gd (zay (s+1)) (some (Sum.inl (s+1)))))) (some (Sum.inr (Sum.inl s)))) 0) fun(x:Int⊕Bool)=>zav x (fun d=>some false) fun r=>some r)))
def zbJ:=zaj zcS
theorem zfM:∀d,zbJ d=zcS d:=congrFun (zad zcS)
def zbL:TE:=⟨132,[.st .Typ,.st .Field],[],(.bool),[],zbJ⟩
theorem znV:XO [zbu,zcB,zbY] zHi zIM [.t 4] zbL:=xq zfM fun d=>by kernel_rfl
def zco(d:List Field×Typ):Option Int:=zaa (zal (fun(s:Int)=>zab (decide (s<(d.1.length:Int))) (gd (decide (0<=s)) (zaa d.1[s.toNat]? fun x=>zaa (zbJ (d.2,x)) fun x=>zab x (some (Sum.inr (Sum.inr s))) (gd (zay (s+1)) (some (Sum.inl (s+1)))))) (some (Sum.inr (Sum.inl s)))) 0) fun(x:Int⊕Int)=>zav x (fun d=>some (-1)) fun r=>some r
def zcx:=zaj zco
theorem ze2:∀d,zcx d=zco d:=congrFun (zad zco)
def zd0:TE:=⟨98,[.lst (.nm .Field),.fn 1048708 [.st .Typ]],[],(.int .i64),[],zcx⟩
theorem zm3:XO [zbL] zDu c98 [.t 4] zd0:=xq ze2 fun d=>by kernel_rfl
def zcl(d:List Field×Typ):Option Bool:=zaa (zcx (d.1,d.2)) fun x=>some (decide (x>=0))
def zcu:=zaj zcl
theorem zeZ:∀d,zcu d=zcl d:=congrFun (zad zcl)
def zdX:TE:=⟨68,[.lst (.nm .Field),.fn 1048708 [.st .Typ]],[],(.bool),[],zcu⟩
theorem zm0:XO [zd0,zbL] zFb c68 [.t 4] zdX:=xq zeZ fun d=>by kernel_rfl
def zbn(d:Field):Option Bool:=some (d.of==[113,117,101,114,121])
def zbp:=zaj zbn
theorem zdy:∀d,zbp d=zbn d:=congrFun (zad zbn)
def zaS:TE:=⟨133,[.st .Field],[],(.bool),[],zbp⟩
theorem zj6:XO [] zHj zIN [.t 2] zaS:=xq zdy fun d=>by kernel_rfl
def za8(d:List Field):Option Int:=zaa (zal (fun(s:Int)=>zab (decide (s<(d.length:Int))) (gd (decide (0<=s)) (zaa d[s.toNat]? fun x=>zaa (zbp x) fun x=>zab x (some (Sum.inr (Sum.inr s))) (gd (zay (s+1)) (some (Sum.inl (s+1)))))) (some (Sum.inr (Sum.inl s)))) 0) fun(x:Int⊕Int)=>zav x (fun d=>some (-1)) fun r=>some r
def zbi:=zaj za8
theorem zdo:∀d,zbi d=za8 d:=congrFun (zad za8)
def zcb:TE:=⟨98,[.lst (.nm .Field),.fn 133 []],[],(.int .i64),[],zbi⟩
theorem zjq:XO [zaS] zDu c98 [.t 4] zcb:=xq zdo fun d=>by kernel_rfl
def za6(d:List Field):Option Bool:=zaa (zbi d) fun x=>some (decide (x>=0))
def zbg:=zaj za6
theorem zdm:∀d,zbg d=za6 d:=congrFun (zad za6)
def zb9:TE:=⟨68,[.lst (.nm .Field),.fn 133 []],[],(.bool),[],zbg⟩
theorem zjo:XO [zcb,zaS] zFb c68 [.t 4] zb9:=xq zdm fun d=>by kernel_rfl
def zbT(d:Part×Int):Option Int:=gd (decide (0<=d.2)) (zaa d.1.types[d.2.toNat]? fun x=>gd (decide (0<=0)&&decide (0<=d.2)&&decide (d.2<=(d.1.types.length:Int))) (zaa (zbb ((⟨[],List.take (d.2.toNat-Int.toNat 0) (List.drop (Int.toNat 0) d.1.types)⟩:Part),x.name)) fun(x_1:Typ×Bool)=>zaa (zc1 x) fun x_2=>zab x_2 (some 1) (zaa (zab x_1.2 (some true) (zaa (zen x) fun x=>zaa (zln x) fun x=>some x)) fun x_3=>zab x_3 (some 2) (zaa (zbf (x.fields,d.1)) fun x_4=>zab x_4 (some 3) (zaa (zdz x) fun x_5=>zab x_5 (some 4) (zaa (zcu (x.fields,x)) fun x_6=>zab x_6 (some 5) (zaa (zbg x.fields) fun x=>zab x (some 7) (some 0))))))))
def zbW:=zaj zbT
theorem zey:∀d,zbW d=zbT d:=congrFun (zad zbT)
def zdD:TE:=⟨102,[.st .Part,.int .i64],[],(.int .i64),[],zbW⟩
theorem zmf:XO [zcA,zeP,zgN,zoN,zb8,zaR,zfX,zdX,zbL,zb9,zaS] zGY zIs [.t 4] zdD:=xq zey fun d=>by kernel_rfl
def zcX(d:List UInt8):Option (Int×List Int):=zaa (zgH ()) fun x=>gd (decide (List.length d<=LIM)) (some ((d.length:Int),List.map zaB d))
def zc5:=zaj zcX
theorem zfT:∀d,zc5 d=zcX d:=congrFun (zad zcX)
def zeT:TE:=⟨51,[.mpb 0 0,.str],[.box bdB [.nilp,.e0]],(.tup [.int .i64,.nilf]),[.box bdB [.mpb 0 0,.own 1],.arr (.int .u8) .no],zc5⟩
theorem zn1:XO [zkh] zIh c51 [.t 4,.t 5] zeT:=xq zfT fun d=>by kernel_rfl
def za9(d:List UInt8×List Int):Option (Int×List Int):=zaa (zdb d.2) fun x=>gd (decide (List.length x=List.length d.2)) (gd (decide (0<List.length x)&&decide (List.length x+List.length d.1<=LIM)) (some ((d.1.length:Int),x++List.map zaB d.1)))
def zat:=zaj za9
theorem zdp:∀d,zat d=za9 d:=congrFun (zad za9)
def zcc:TE:=⟨51,[.mpb 0 0,.str],[.box bdB [.mpb 0 0,.own 1],.arr (.int .u8) .no],(.tup [.int .i64,.nilf]),[.box bdB [.mpb 0 0,.own 2],.dead,.arr (.int .u8) .no],zat⟩
theorem zjr:XO [zfZ] zIh c51 [.t 4,.t 5] zcc:=xq zdp fun d=>by kernel_rfl
def zee(d:Field):Option (List UInt8):=zaa (zab d.list (gd (decide (List.length [91]+List.length d.of<=BIG)) (gd (decide (List.length ([91]++d.of)+List.length [93]<=BIG)) (some ([91]++d.of++[93])))) (some d.of)) fun x=>zaa (zab d.must (gd (decide (List.length x+List.length [33]<=BIG)) (some (x++[33]))) (some x)) fun x=>gd (decide (List.length [32,32]+List.length d.name<=BIG)) (gd (decide (List.length ([32,32]++d.name)+List.length [32]<=BIG)) (gd (decide (List.length ([32,32]++d.name++[32])+List.length x<=BIG)) (zaa (zal (fun(s:List UInt8×Int)=>zab (decide (s.2<(↑(List.length [d.far,d.hidden,d.shared]):Int))) (gd (decide (0<=s.2)) (zaa [d.far,d.hidden,d.shared][s.2.toNat]? fun x=>zaa (zab x (gd (decide (0<=s.2)) (zaa [[32,102,97,114],[32,104,105,100,100,101,110],[32,115,104,97,114,101,100]][s.2.toNat]? fun x=>gd (decide (List.length s.1+List.length x<=BIG)) (some (s.1++x)))) (some s.1)) fun x=>gd (zay (s.2+1)) (some (Sum.inl (x,s.2+1))))) (some (Sum.inr (s.1,s.2)))) ([32,32]++d.name++[32]++x,0)) fun(x:List UInt8×Int)=>zaa (zaX d) fun x_1=>zaa (zab x_1 (zaa (zaN (d.needs,[32])) fun x_2=>gd (decide (List.length [32,110,101,101,100,115,32]+List.length x_2<=BIG)) (gd (decide (List.length x.1+List.length ([32,110,101,101,100,115,32]++x_2)<=BIG)) (some (x.1++([32,110,101,101,100,115,32]++x_2))))) (some x.1)) fun x=>gd (decide (List.length x+List.length [10]<=BIG)) (some (x++[10])))))
def zel:=zaj zee
theorem zgW:∀d,zel d=zee d:=congrFun (zad zee)
def zgL:TE:=⟨134,[.st .Field],[],(.str),[],zel⟩
theorem zqq:XO [zbu,zgQ] zHk zIO [.t 2] zgL:=xq zgW fun d=>by kernel_rfl
def zeg(d:Part):Option (List UInt8):=gd (decide (List.length [112,97,114,116,32]+List.length d.name<=BIG)) (gd (decide (List.length ([112,97,114,116,32]++d.name)+List.length [10]<=BIG)) (zaa (zc5 ([112,97,114,116,32]++d.name++[10])) fun(x:Int×List Int)=>zaa (zal (fun(s:Int×List Int)=>zab (decide (s.1<(d.types.length:Int))) (gd (decide (0<=s.1)) (zaa d.types[s.1.toNat]? fun x=>gd (decide (List.length [116,121,112,101,32]+List.length x.name<=BIG)) (zaa (zat ([116,121,112,101,32]++x.name,s.2)) fun(x_1:Int×List Int)=>zaa (zab (x.key !=[]) (gd (decide (List.length [32,107,101,121,32]+List.length x.key<=BIG)) (zaa (zat ([32,107,101,121,32]++x.key,x_1.2)) fun(x:Int×List Int)=>some x.2)) (some x_1.2)) fun x_2=>zaa (zat ([10],x_2)) fun(x_3:Int×List Int)=>zaa (zal (fun(s:Int×List Int)=>zab (decide (s.1<(x.fields.length:Int))) (gd (decide (0<=s.1)) (zaa x.fields[s.1.toNat]? fun x=>zaa (zel x) fun x=>zaa (zat (x,s.2)) fun(x:Int×List Int)=>gd (zay (s.1+1)) (some (Sum.inl (s.1+1,x.2))))) (some (Sum.inr (s.1,s.2)))) (0,x_3.2)) fun(x:Int×List Int)=>gd (zay (s.1+1)) (some (Sum.inl (s.1+1,x.2)))))) (some (Sum.inr (s.1,s.2)))) (0,x.2)) fun(x:Int×List Int)=>zaa (zhB x.2) fun x=>some x))
def zem:=zaj zeg
theorem zgY:∀d,zem d=zeg d:=congrFun (zad zeg)
def zgM:TE:=⟨103,[.st .Part],[],(.str),[],zem⟩
theorem zqs:XO [zeT,zcc,zgL,zo1] zGZ zIt [.t 2] zgM:=xq zgY fun d=>by kernel_rfl
def ze9(d:Part):Option PFault:=zab (decide ((d.types.length:Int)>5)) (some (⟨6,6⟩:PFault)) (zaa (zcs d.name) fun x=>zab (!x) (some (⟨0,1⟩:PFault)) (zaa (zab ((d.types.length:Int)==0) (some true) (zaa d.types[Int.toNat 0]? fun x=>zab (x.name !=[113,117,101,114,121]) (some true) (zaa d.types[Int.toNat 0]? fun x=>some (x.key !=[])))) fun x=>zab x (some (⟨0,7⟩:PFault)) (zaa (zal (fun(s:Int×Int×Int)=>zab (decide (s.1<(d.types.length:Int))) (zaa (zbW (d,s.1)) fun x=>zab (decide (x>0)) (gd (zay (s.1+1)) (some (Sum.inr (Sum.inr (⟨s.1+1,x⟩:PFault))))) (gd (zay (s.1+1)) (some (Sum.inl (s.1+1,s.2.1,s.2.2))))) (some (Sum.inr (Sum.inl (s.1,s.2.1,s.2.2))))) (0,0,0)) fun(x:Int×Int×Int⊕PFault)=>zav x (fun d_1=>zaa (zem d) fun x=>zab (decide ((x.length:Int)>1500)) (some (⟨0,6⟩:PFault)) (some (⟨0,0⟩:PFault))) fun r=>some r)))
def zfj:=zaj ze9
theorem zh9:∀d,zfj d=ze9 d:=congrFun (zad ze9)
def zhJ:TE:=⟨73,[.st .Part],[],(.st .PFault),[],zfj⟩
theorem zsC:XO [zfE,zdD,zgM] zJB c73 [.c 2 (some 2)] zhJ:=xq zh9 fun d=>by kernel_rfl
def zjv(d:Part):Option Bool:=zaa (zfj d) fun x=>some (x.pos==0&&(x.code==0&&true))
def zg2:=zaj zjv
theorem zlm:∀d,zg2 d=zjv d:=congrFun (zad zjv)
def zjG:TE:=⟨32,[.st .Part],[],(.bool),[],zg2⟩
theorem zyf:XO [zhJ] zJc c32 [.t 2] zjG:=xq zlm fun d=>by kernel_rfl
def zcT(d:Part×Part):Option Bool:=some (d.1.name==d.2.name)
def zc2:=zaj zcT
theorem zfP:∀d,zc2 d=zcT d:=congrFun (zad zcT)
def zbM:TE:=⟨61,[.st .Part,.ep .Part],[],(.bool),[],zc2⟩
theorem znW:XO [] zJt c61 [.t 3] zbM:=xq zfP fun d=>by kernel_rfl
def zcp(d:List Part×Part):Option Int:=zaa (zal (fun(s:Int)=>zab (decide (s<(d.1.length:Int))) (gd (decide (0<=s)) (zaa d.1[s.toNat]? fun x=>zaa (zc2 (x,d.2)) fun x=>zab x (some (Sum.inr (Sum.inr s))) (gd (zay (s+1)) (some (Sum.inl (s+1)))))) (some (Sum.inr (Sum.inl s)))) 0) fun(x:Int⊕Int)=>zav x (fun d=>some (-1)) fun r=>some r
def zcy:=zaj zcp
theorem ze3:∀d,zcy d=zcp d:=congrFun (zad zcp)
def zd1:TE:=⟨93,[.lst (.nm .Part),.fn 61 [.ep .Part]],[],(.int .i64),[],zcy⟩
theorem zm4:XO [zbM] zJN c93 [.t 4] zd1:=xq ze3 fun d=>by kernel_rfl
def zcm(d:List Part×Part):Option Bool:=zaa (zcy (d.1,d.2)) fun x=>some (decide (x>=0))
def zcv:=zaj zcm
theorem ze0:∀d,zcv d=zcm d:=congrFun (zad zcm)
def zdY:TE:=⟨60,[.lst (.nm .Part),.fn 61 [.ep .Part]],[],(.bool),[],zcv⟩
theorem zm1:XO [zd1,zbM] zJs c60 [.t 4] zdY:=xq ze0 fun d=>by kernel_rfl
def zk1(d:List Part×List UInt8):Option (List UInt8):=zaa (zal (fun(s:Int)=>zab (decide (s<(d.1.length:Int))) (gd (decide (0<=s)) (zaa d.1[s.toNat]? fun x=>zaa (zbb (x,d.2)) fun(x:Typ×Bool)=>zab (x.1.key !=[]) (some (Sum.inr (Sum.inr x.1.key))) (gd (zay (s+1)) (some (Sum.inl (s+1)))))) (some (Sum.inr (Sum.inl s)))) 0) fun(x:Int⊕List UInt8)=>zav x (fun d=>some []) fun r=>some r
def zg1:=zaj zk1
theorem zm6:∀d,zg1 d=zk1 d:=congrFun (zad zk1)
def ziQ:TE:=⟨62,[.lst (.nm .Part),.str],[],(.str),[],zg1⟩
theorem zAP:XO [zcA] zJu c62 [.t 4] ziQ:=xq zm6 fun d=>by kernel_rfl
def zef(d:Part×List UInt8×List UInt8):Option (Field×Bool):=zaa (zbb (d.1,d.2.1)) fun(x:Typ×Bool)=>zaa (zbe ((⟨x.1.name,x.1.key,x.1.fields⟩:Typ),d.2.2)) fun(x:Field×Bool)=>some ((⟨x.1.name,x.1.of,x.1.list,x.1.must,x.1.far,x.1.hidden,x.1.shared,x.1.needs⟩:Field),x.2)
def zcM:=zaj zef
theorem zgX:∀d,zcM d=zef d:=congrFun (zad zef)
def zet:TE:=⟨74,[.st .Part,.str,.str],[],(.tup [.st .Field,.bool]),[],zcM⟩
theorem zqr:XO [zcA,zcB] zJC c74 [.c 6 (some 8),.t 7] zet:=xq zgX fun d=>by kernel_rfl
def zge(d:List Part×List UInt8×List UInt8):Option (List Field):=zaa (zal (fun(s:Int×List Field)=>zab (decide (s.1<(d.1.length:Int))) (gd (decide (0<=s.1)) (zaa d.1[s.1.toNat]? fun x=>zaa (zcM (x,d.2.1,d.2.2)) fun(x:Field×Bool)=>zaa (zab x.2 (gd (decide (List.length s.2+List.length [(⟨x.1.name,x.1.of,x.1.list,x.1.must,x.1.far,x.1.hidden,x.1.shared,x.1.needs⟩:Field)]<=LIM)) (some (s.2++[(⟨x.1.name,x.1.of,x.1.list,x.1.must,x.1.far,x.1.hidden,x.1.shared,x.1.needs⟩:Field)]))) (some s.2)) fun x=>gd (zay (s.1+1)) (some (Sum.inl (s.1+1,x))))) (some (Sum.inr (s.1,s.2)))) (0,[])) fun(x:Int×List Field)=>some x.2
def zb3:=zaj zge
theorem ziD:∀d,zb3 d=zge d:=congrFun (zad zge)
def zdq:TE:=⟨69,[.lst (.nm .Part),.str,.str],[],(.lst (.nm .Field)),[],zb3⟩
theorem zuc:XO [zet] zJy c69 [.t 6] zdq:=xq ziD fun d=>by kernel_rfl
def zgh(d:Field×Field):Option Bool:=zaa (zab (d.1.of !=d.2.of) (some true) (zab (d.1.list !=d.2.list) (some true) (some (d.1.must !=d.2.must)))) fun x=>some x
def zeB:=zaj zgh
theorem ziH:∀d,zeB d=zgh d:=congrFun (zad zgh)
def zeE:TE:=⟨95,[.st .Field,.ep .Field],[],(.bool),[],zeB⟩
theorem zuf:XO [] zJP c95 [.t 3] zeE:=xq ziH fun d=>by kernel_rfl
def zfi(d:List Field×Field):Option Int:=zaa (zal (fun(s:Int)=>zab (decide (s<(d.1.length:Int))) (gd (decide (0<=s)) (zaa d.1[s.toNat]? fun x=>zaa (zeB (x,d.2)) fun x=>zab x (some (Sum.inr (Sum.inr s))) (gd (zay (s+1)) (some (Sum.inl (s+1)))))) (some (Sum.inr (Sum.inl s)))) 0) fun(x:Int⊕Int)=>zav x (fun d=>some (-1)) fun r=>some r
def zfr:=zaj zfi
theorem zii:∀d,zfr d=zfi d:=congrFun (zad zfi)
def zhR:TE:=⟨98,[.lst (.nm .Field),.fn 95 [.ep .Field]],[],(.int .i64),[],zfr⟩
theorem zsL:XO [zeE] zDu c98 [.t 4] zhR:=xq zii fun d=>by kernel_rfl
def zff(d:List Field×Field):Option Bool:=zaa (zfr (d.1,d.2)) fun x=>some (decide (x>=0))
def zfo:=zaj zff
theorem zif:∀d,zfo d=zff d:=congrFun (zad zff)
def zhO:TE:=⟨68,[.lst (.nm .Field),.fn 95 [.ep .Field]],[],(.bool),[],zfo⟩
theorem zsI:XO [zhR,zeE] zFb c68 [.t 4] zhO:=xq zif fun d=>by kernel_rfl
def zjw(d:List Part×Typ):Option (List UInt8):=zaa (zal (fun(s:Int)=>zab (decide (s<(d.2.fields.length:Int))) (gd (decide (0<=s)) (zaa d.2.fields[s.toNat]? fun x=>zaa (zb3 (d.1,d.2.name,x.name)) fun x_1=>zaa (zfo (x_1,x)) fun x_2=>zab x_2 (some (Sum.inr (Sum.inr x.name))) (gd (zay (s+1)) (some (Sum.inl (s+1)))))) (some (Sum.inr (Sum.inl s)))) 0) fun(x:Int⊕List UInt8)=>zav x (fun d=>some []) fun r=>some r
def zjC:=zaj zjw
theorem zlo:∀d,zjC d=zjw d:=congrFun (zad zjw)
def zmp:TE:=⟨63,[.lst (.nm .Part),.st .Typ],[],(.str),[],zjC⟩
theorem zyg:XO [zdq,zhO,zeE] zJv c63 [.t 4] zmp:=xq zlo fun d=>by kernel_rfl
def zht(d:List Part×List UInt8×List UInt8):Option (List Int):=zaa (zal (fun(s:Int×List Int)=>zab (decide (s.1<(d.1.length:Int))) (gd (decide (0<=s.1)) (zaa d.1[s.1.toNat]? fun x=>zaa (zcM (x,d.2.1,d.2.2)) fun(x:Field×Bool)=>zaa (zab x.2 (some !x.1.far) (some false)) fun x=>zaa (zab x (gd (decide (List.length s.2+List.length [s.1]<=LIM)) (some (s.2++[s.1]))) (some s.2)) fun x=>gd (zay (s.1+1)) (some (Sum.inl (s.1+1,x))))) (some (Sum.inr (s.1,s.2)))) (0,[])) fun(x:Int×List Int)=>some x.2
def zfN:=zaj zht
theorem zj9:∀d,zfN d=zht d:=congrFun (zad zht)
def zhL:TE:=⟨33,[.lst (.nm .Part),.str,.str],[],(.lst (.int .i64)),[],zfN⟩
theorem zvL:XO [zet] zJd c33 [.t 6] zhL:=xq zj9 fun d=>by kernel_rfl
def zhu(d:List Part×List UInt8×List UInt8):Option (List (List UInt8)):=zaa (zb3 (d.1,d.2.1,d.2.2)) fun x=>zaa (zal (fun(s:Int)=>zab (decide (s<(x.length:Int))) (gd (decide (0<=s)) (zaa x[s.toNat]? fun x=>zaa (zaX x) fun x_1=>zab x_1 (some (Sum.inr (Sum.inr x.needs))) (gd (zay (s+1)) (some (Sum.inl (s+1)))))) (some (Sum.inr (Sum.inl s)))) 0) fun(x:Int⊕List (List UInt8))=>zav x (fun d=>some []) fun r=>some r
def zdS:=zaj zhu
theorem zka:∀d,zdS d=zhu d:=congrFun (zad zhu)
def zfY:TE:=⟨72,[.lst (.nm .Part),.str,.str],[],(.lst .str),[],zdS⟩
theorem zvM:XO [zdq,zbu] zJA c72 [.t 6] zfY:=xq zka fun d=>by kernel_rfl
def zdw(d:List UInt8×List Part×List UInt8):Option Bool:=zaa (zdS (d.2.1,d.2.2,d.1)) fun x=>some (decide ((x.length:Int)>0))
def zdA:=zaj zdw
theorem zgp:∀d,zdA d=zdw d:=congrFun (zad zdw)
def zb7:TE:=⟨96,[.str,.ip [.lst (.nm .Part)],.ip [.str]],[],(.bool),[],zdA⟩
theorem zp3:XO [zfY] zJQ c96 [.t 4] zb7:=xq zgp fun d=>by kernel_rfl
def zcW(d:List (List UInt8)×List Part×List UInt8):Option Int:=zaa (zal (fun(s:Int)=>zab (decide (s<(d.1.length:Int))) (gd (decide (0<=s)) (zaa d.1[s.toNat]? fun x=>zaa (zdA (x,d.2.1,d.2.2)) fun x=>zab x (some (Sum.inr (Sum.inr s))) (gd (zay (s+1)) (some (Sum.inl (s+1)))))) (some (Sum.inr (Sum.inl s)))) 0) fun(x:Int⊕Int)=>zav x (fun d=>some (-1)) fun r=>some r
def zc4:=zaj zcW
theorem zfS:∀d,zc4 d=zcW d:=congrFun (zad zcW)
def zeS:TE:=⟨124,[.lst .str,.fn 96 [.ip [.lst (.nm .Part)],.ip [.str]]],[],(.int .i64),[],zc4⟩
theorem zn0:XO [zb7] zFz zIe [.t 4] zeS:=xq zfS fun d=>by kernel_rfl
def zcU(d:List (List UInt8)×List Part×List UInt8):Option Bool:=zaa (zc4 (d.1,d.2.1,d.2.2)) fun x=>some (decide (x>=0))
def zbK:=zaj zcU
theorem zfQ:∀d,zbK d=zcU d:=congrFun (zad zcU)
def zeQ:TE:=⟨97,[.lst .str,.fn 96 [.ip [.lst (.nm .Part)],.ip [.str]]],[],(.bool),[],zbK⟩
theorem znX:XO [zeS,zb7] zIk c97 [.t 4] zeQ:=xq zfQ fun d=>by kernel_rfl
def zfc(d:List Part×List UInt8×List UInt8):Option Int:=zaa (zfN (d.1,d.2.1,d.2.2)) fun x=>zaa (zb3 (d.1,d.2.1,d.2.2)) fun x_1=>zaa (zal (fun(s:Int×Int)=>zab (decide (s.2<(x_1.length:Int))) (gd (decide (0<=s.2)) (zaa x_1[s.2.toNat]? fun x=>zaa (zab x.shared (gd (zay (s.1+1)) (some (s.1+1))) (some s.1)) fun x=>gd (zay (s.2+1)) (some (Sum.inl (x,s.2+1))))) (some (Sum.inr (s.1,s.2)))) (0,0)) fun(x_2:Int×Int)=>zaa (zdS (d.1,d.2.1,d.2.2)) fun x_3=>zab ((x.length:Int)==0) (some 6) (zaa (zab (decide ((x.length:Int)>1)) (zaa (zg1 (d.1,d.2.1)) fun x_4=>zab (d.2.2 !=x_4) (some (decide (x_2.1<(x.length:Int)))) (some false)) (some false)) fun x_4=>zab x_4 (some 5) (zaa (zab (decide ((x.length:Int)>1)) (zab (decide ((x_3.length:Int)>0)) (some true) (zaa (zbK (x_3,d.1,d.2.1)) fun x=>some x)) (zaa (zbK (x_3,d.1,d.2.1)) fun x=>some x)) fun x=>zab x (some 7) (some 0)))
def zfk:=zaj zfc
theorem zic:∀d,zfk d=zfc d:=congrFun (zad zfc)
def zhK:TE:=⟨64,[.lst (.nm .Part),.str,.str],[],(.int .i64),[],zfk⟩
theorem zsF:XO [zhL,zdq,zfY,ziQ,zeQ,zb7] zJw c64 [.t 6] zhK:=xq zic fun d=>by kernel_rfl
def zei(d:List Part):Option CFault:=zaa (zli ((d.length:Int),1,4)) fun x=>zab (!x) (some (⟨0,[],[],8⟩:CFault)) (zaa (zal (fun(s:Int×Int×List UInt8×List UInt8×Int)=>zab (decide (s.1<(d.length:Int))) (gd (decide (0<=s.1)) (zaa d[s.1.toNat]? fun x=>zaa (zg2 x) fun x_1=>zab (!x_1) (gd (zay (s.1+1)) (some (Sum.inr (Sum.inr (⟨s.1+1,[],[],1⟩:CFault))))) (gd (decide (0<=0)&&decide (0<=s.1)&&decide (s.1<=(d.length:Int))) (zaa (zcv (List.take (s.1.toNat-Int.toNat 0) (List.drop (Int.toNat 0) d),x)) fun x=>zab x (gd (zay (s.1+1)) (some (Sum.inr (Sum.inr (⟨s.1+1,[],[],2⟩:CFault))))) (gd (zay (s.1+1)) (some (Sum.inl (s.1+1,s.2.1,s.2.2.1,s.2.2.2.1,s.2.2.2.2)))))))) (some (Sum.inr (Sum.inl (s.1,s.2.1,s.2.2.1,s.2.2.2.1,s.2.2.2.2))))) (0,0,[],[],0)) fun(x:Int×Int×List UInt8×List UInt8×Int⊕CFault)=>zav x (fun d_1=>zaa (zal (fun(s:Int×Int×List UInt8×List UInt8×Int)=>zab (decide (s.1<(d.length:Int))) (gd (decide (0<=s.1)) (zaa d[s.1.toNat]? fun x=>zaa (zal (fun(s_1:Int×Int×List UInt8×List UInt8×Int)=>zab (decide (s_1.1<(x.types.length:Int))) (gd (decide (0<=s_1.1)) (zaa x.types[s_1.1.toNat]? fun x=>zaa (zab (x.key !=[]) (zaa (zg1 (d,x.name)) fun x_1=>some (x.key !=x_1)) (some false)) fun x_1=>zab x_1 (gd (zay (s.1+1)) (some (Sum.inr (Sum.inr (Sum.inr (Sum.inr (⟨s.1+1,x.name,[],4⟩:CFault))))))) (zaa (zjC (d,x)) fun x_2=>zab (x_2 !=[]) (gd (zay (s.1+1)) (some (Sum.inr (Sum.inr (Sum.inr (Sum.inr (⟨s.1+1,x.name,x_2,3⟩:CFault))))))) (gd (zay (s_1.1+1)) (some (Sum.inl (s_1.1+1,s_1.2.1,s_1.2.2.1,s_1.2.2.2.1,s_1.2.2.2.2))))))) (some (Sum.inr (Sum.inl (s_1.1,s_1.2.1,s_1.2.2.1,s_1.2.2.2.1,s_1.2.2.2.2))))) (0,s.2.1,s.2.2.1,s.2.2.2.1,s.2.2.2.2)) fun(x:Int×Int×List UInt8×List UInt8×Int⊕Int×Int×List UInt8×List UInt8×Int⊕Int×Int×List UInt8×List UInt8×Int⊕CFault)=>zav x (fun d=>gd (zay (s.1+1)) (some (Sum.inl (s.1+1,d.2.1,d.2.2.1,d.2.2.2.1,d.2.2.2.2)))) fun r=>some r)) (some (Sum.inr (Sum.inl (s.1,s.2.1,s.2.2.1,s.2.2.2.1,s.2.2.2.2))))) (0,d_1.2.1,d_1.2.2.1,d_1.2.2.2.1,d_1.2.2.2.2)) fun(x:Int×Int×List UInt8×List UInt8×Int⊕CFault)=>zav x (fun d_2=>zaa (zal (fun(s:Int×Int×List UInt8×List UInt8×Int)=>zab (decide (s.1<(d.length:Int))) (gd (decide (0<=s.1)) (zaa d[s.1.toNat]? fun x=>zaa (zal (fun(s_1:Int×Int×List UInt8×List UInt8×Int)=>zab (decide (s_1.1<(x.types.length:Int))) (gd (decide (0<=s_1.1)) (zaa x.types[s_1.1.toNat]? fun x=>zaa (zal (fun(s_2:Int×Int×List UInt8×List UInt8×Int)=>zab (decide (s_2.1<(x.fields.length:Int))) (gd (decide (0<=s_2.1)) (zaa x.fields[s_2.1.toNat]? fun x_1=>zaa (zfk (d,x.name,x_1.name)) fun x_2=>zab (decide (x_2>0)) (gd (zay (s.1+1)) (some (Sum.inr (Sum.inr (Sum.inr (Sum.inr (Sum.inr (Sum.inr (⟨s.1+1,x.name,x_1.name,x_2⟩:CFault))))))))) (gd (zay (s_2.1+1)) (some (Sum.inl (s_2.1+1,s_2.2.1,s_2.2.2.1,s_2.2.2.2.1,s_2.2.2.2.2)))))) (some (Sum.inr (Sum.inl (s_2.1,s_2.2.1,s_2.2.2.1,s_2.2.2.2.1,s_2.2.2.2.2))))) (0,s_1.2.1,s_1.2.2.1,s_1.2.2.2.1,s_1.2.2.2.2)) fun(x:Int×Int×List UInt8×List UInt8×Int⊕Int×Int×List UInt8×List UInt8×Int⊕Int×Int×List UInt8×List UInt8×Int⊕Int×Int×List UInt8×List UInt8×Int⊕Int×Int×List UInt8×List UInt8×Int⊕CFault)=>zav x (fun d=>gd (zay (s_1.1+1)) (some (Sum.inl (s_1.1+1,d.2.1,d.2.2.1,d.2.2.2.1,d.2.2.2.2)))) fun r=>some r)) (some (Sum.inr (Sum.inl (s_1.1,s_1.2.1,s_1.2.2.1,s_1.2.2.2.1,s_1.2.2.2.2))))) (0,s.2.1,s.2.2.1,s.2.2.2.1,s.2.2.2.2)) fun(x:Int×Int×List UInt8×List UInt8×Int⊕Int×Int×List UInt8×List UInt8×Int⊕Int×Int×List UInt8×List UInt8×Int⊕CFault)=>zav x (fun d=>gd (zay (s.1+1)) (some (Sum.inl (s.1+1,d.2.1,d.2.2.1,d.2.2.2.1,d.2.2.2.2)))) fun r=>some r)) (some (Sum.inr (Sum.inl (s.1,s.2.1,s.2.2.1,s.2.2.2.1,s.2.2.2.2))))) (0,d_2.2.1,d_2.2.2.1,d_2.2.2.2.1,d_2.2.2.2.2)) fun(x:Int×Int×List UInt8×List UInt8×Int⊕CFault)=>zav x (fun d=>some (⟨0,[],[],0⟩:CFault)) fun r=>some r) fun r=>some r) fun r=>some r)
def zeo:=zaj zei
theorem zg3:∀d,zeo d=zei d:=congrFun (zad zei)
def zgO:TE:=⟨30,[.lst (.nm .Part)],[],(.st .CFault),[],zeo⟩
theorem zqu:XO [zs8,zjG,zdY,zbM,ziQ,zmp,zhK] zJa c30 [.c 2 (some 4)] zgO:=xq zg3 fun d=>by kernel_rfl
def zgf(d:Typ×Typ):Option Bool:=some (d.1.name==d.2.name)
def zgq:=zaj zgf
theorem ziE:∀d,zgq d=zgf d:=congrFun (zad zgf)
def zgs:TE:=⟨66,[.st .Typ,.ep .Typ],[],(.bool),[],zgq⟩
theorem zud:XO [] zJx c66 [.t 3] zgs:=xq ziE fun d=>by kernel_rfl
def zfg(d:List Typ×Typ):Option Int:=zaa (zal (fun(s:Int)=>zab (decide (s<(d.1.length:Int))) (gd (decide (0<=s)) (zaa d.1[s.toNat]? fun x=>zaa (zgq (x,d.2)) fun x=>zab x (some (Sum.inr (Sum.inr s))) (gd (zay (s+1)) (some (Sum.inl (s+1)))))) (some (Sum.inr (Sum.inl s)))) 0) fun(x:Int⊕Int)=>zav x (fun d=>some (-1)) fun r=>some r
def zfp:=zaj zfg
theorem zig:∀d,zfp d=zfg d:=congrFun (zad zfg)
def zhP:TE:=⟨65,[.lst (.nm .Typ),.fn 66 [.ep .Typ]],[],(.int .i64),[],zfp⟩
theorem zsJ:XO [zgs] zIi c65 [.t 4] zhP:=xq zig fun d=>by kernel_rfl
def zgg(d:Field):Option Bool:=some d.hidden
def zgr:=zaj zgg
theorem ziF:∀d,zgr d=zgg d:=congrFun (zad zgg)
def zeD:TE:=⟨70,[.st .Field],[],(.bool),[],zgr⟩
theorem zue:XO [] zJz c70 [.t 2] zeD:=xq ziF fun d=>by kernel_rfl
def zfh(d:List Field):Option Int:=zaa (zal (fun(s:Int)=>zab (decide (s<(d.length:Int))) (gd (decide (0<=s)) (zaa d[s.toNat]? fun x=>zaa (zgr x) fun x=>zab x (some (Sum.inr (Sum.inr s))) (gd (zay (s+1)) (some (Sum.inl (s+1)))))) (some (Sum.inr (Sum.inl s)))) 0) fun(x:Int⊕Int)=>zav x (fun d=>some (-1)) fun r=>some r
def zfq:=zaj zfh
theorem zih:∀d,zfq d=zfh d:=congrFun (zad zfh)
def zhQ:TE:=⟨98,[.lst (.nm .Field),.fn 70 []],[],(.int .i64),[],zfq⟩
theorem zsK:XO [zeD] zDu c98 [.t 4] zhQ:=xq zih fun d=>by kernel_rfl
def zfe(d:List Field):Option Bool:=zaa (zfq d) fun x=>some (decide (x>=0))
def zfn:=zaj zfe
theorem zie:∀d,zfn d=zfe d:=congrFun (zad zfe)
def zhN:TE:=⟨68,[.lst (.nm .Field),.fn 70 []],[],(.bool),[],zfn⟩
theorem zsH:XO [zhQ,zeD] zFb c68 [.t 4] zhN:=xq zie fun d=>by kernel_rfl
def zju(d:List Part):Option Part:=zaa (zal (fun(s:Int×List UInt8×List Typ×List UInt8×List Typ)=>zab (decide (s.1<(d.length:Int))) (gd (decide (0<=s.1)) (zaa d[s.1.toNat]? fun x=>zaa (zal (fun(s:Int×List UInt8×List Typ×List UInt8×List Typ)=>zab (decide (s.1<(x.types.length:Int))) (gd (decide (0<=s.1)) (zaa x.types[s.1.toNat]? fun x=>zaa (zfp (s.2.2.2.2,x)) fun x_1=>zaa (zab (decide (x_1<0)) (zaa (zg1 (d,x.name)) fun x_2=>gd (decide (List.length s.2.2.2.2+List.length [(⟨x.name,x_2,[]⟩:Typ)]<=LIM)) (some ((s.2.2.2.2.length:Int),s.2.1,s.2.2.1,s.2.2.2.1,s.2.2.2.2++[(⟨x.name,x_2,[]⟩:Typ)]))) (some (x_1,s.2.1,s.2.2.1,s.2.2.2.1,s.2.2.2.2))) fun(x_2:Int×List UInt8×List Typ×List UInt8×List Typ)=>gd (decide (0<=x_2.1)&&decide (x_2.1<(x_2.2.2.2.2.length:Int))) (zaa (zal (fun(s:Int×Nat×List UInt8×List Typ×List UInt8×List Typ)=>zab (decide (s.1<(x.fields.length:Int))) (gd (decide (0<=s.1)) (zaa x.fields[s.1.toNat]? fun x_3=>zaa s.2.2.2.2.2[s.2.1]? fun x_4=>zaa (zcr ((x_4.name,x_4.key),x_3.name,x_4.fields)) fun(x_5:(Field×Bool)×List Field)=>gd (decide (List.length x_5.2=List.length x_4.fields)) (zab x_5.1.2 (gd (zay (s.1+1)) (some (Sum.inl (s.1+1,s.2.1,s.2.2.1,s.2.2.2.1,s.2.2.2.2.1,List.set s.2.2.2.2.2 s.2.1 (⟨x_4.name,x_4.key,x_5.2⟩:Typ))))) (zaa (zb3 (d,x.name,x_3.name)) fun x_6=>zaa (zfn x_6) fun x_7=>zaa (zdS (d,x.name,x_3.name)) fun x=>zaa (zaJ x) fun x=>zaa (List.set s.2.2.2.2.2 s.2.1 (⟨x_4.name,x_4.key,x_5.2⟩:Typ))[s.2.1]? fun x_8=>gd (decide (List.length x_8.fields+List.length [(⟨x_3.name,x_3.of,x_3.list,x_3.must,false,x_7,false,x⟩:Field)]<=LIM)) (gd (decide (s.2.1=s.2.1)) (gd (zay (s.1+1)) (some (Sum.inl (s.1+1,s.2.1,s.2.2.1,s.2.2.2.1,s.2.2.2.2.1,List.set (List.set s.2.2.2.2.2 s.2.1 (⟨x_4.name,x_4.key,x_5.2⟩:Typ)) s.2.1 (⟨x_8.name,x_8.key,x_8.fields++[(⟨x_3.name,x_3.of,x_3.list,x_3.must,false,x_7,false,x⟩:Field)]⟩:Typ)))))))))) (some (Sum.inr (s.1,s.2.1,s.2.2.1,s.2.2.2.1,s.2.2.2.2.1,s.2.2.2.2.2)))) (0,x_2.1.toNat,x_2.2.1,x_2.2.2.1,x_2.2.2.2.1,x_2.2.2.2.2)) fun(x:Int×Nat×List UInt8×List Typ×List UInt8×List Typ)=>gd (zay (s.1+1)) (some (Sum.inl (s.1+1,x.2.2.1,x.2.2.2.1,x.2.2.2.2.1,x.2.2.2.2.2)))))) (some (Sum.inr (s.1,s.2.1,s.2.2.1,s.2.2.2.1,s.2.2.2.2)))) (0,s.2.1,s.2.2.1,s.2.2.2.1,s.2.2.2.2)) fun(x:Int×List UInt8×List Typ×List UInt8×List Typ)=>gd (zay (s.1+1)) (some (Sum.inl (s.1+1,x.2.1,x.2.2.1,x.2.2.2.1,x.2.2.2.2))))) (some (Sum.inr (s.1,s.2.1,s.2.2.1,s.2.2.2.1,s.2.2.2.2)))) (0,[],[],[97],[])) fun(x:Int×List UInt8×List Typ×List UInt8×List Typ)=>some (⟨x.2.2.2.1,x.2.2.2.2⟩:Part)
def zg0:=zaj zju
theorem zll:∀d,zg0 d=zju d:=congrFun (zad zju)
def zmo:TE:=⟨31,[.lst (.nm .Part)],[],(.st .Part),[],zg0⟩
theorem zye:XO [zhP,zgs,ziQ,zcB,zdV,zdq,zhN,zeD,zfY,zbZ] zJb c31 [.c 2 (some 2)] zmo:=xq zll fun d=>by kernel_rfl
def ze8(d:List Part):Option (Chart×CFault):=zaa (zeo d) fun x=>zab (decide (x.code>0)) (some ((⟨⟨[],[]⟩,[]⟩:Chart),x)) (zaa (zg0 d) fun x=>zaa (zg2 x) fun x_1=>zab (!x_1) (some ((⟨⟨[],[]⟩,[]⟩:Chart),(⟨0,[],[],8⟩:CFault))) (zaa (zal (fun(s:Int×List UInt8×List Typ×List Own×(Int×List UInt8×List UInt8×Int)×(List UInt8×List Typ)×List Own)=>zab (decide (s.1<(x.types.length:Int))) (gd (decide (0<=s.1)) (zaa x.types[s.1.toNat]? fun x=>zaa (zal (fun(s:Int×List UInt8×List Typ×List Own×(Int×List UInt8×List UInt8×Int)×(List UInt8×List Typ)×List Own)=>zab (decide (s.1<(x.fields.length:Int))) (gd (decide (0<=s.1)) (zaa x.fields[s.1.toNat]? fun x_2=>zaa (zfN (d,x.name,x_2.name)) fun x_3=>gd (decide (List.length s.2.2.2.2.2.2+List.length [(⟨x.name,x_2.name,x_3⟩:Own)]<=LIM)) (gd (zay (s.1+1)) (some (Sum.inl (s.1+1,s.2.1,s.2.2.1,s.2.2.2.1,(s.2.2.2.2.1.1,s.2.2.2.2.1.2.1,s.2.2.2.2.1.2.2.1,s.2.2.2.2.1.2.2.2),(s.2.2.2.2.2.1.1,s.2.2.2.2.2.1.2),s.2.2.2.2.2.2++[(⟨x.name,x_2.name,x_3⟩:Own)])))))) (some (Sum.inr (s.1,s.2.1,s.2.2.1,s.2.2.2.1,(s.2.2.2.2.1.1,s.2.2.2.2.1.2.1,s.2.2.2.2.1.2.2.1,s.2.2.2.2.1.2.2.2),(s.2.2.2.2.2.1.1,s.2.2.2.2.2.1.2),s.2.2.2.2.2.2)))) (0,s.2.1,s.2.2.1,s.2.2.2.1,(s.2.2.2.2.1.1,s.2.2.2.2.1.2.1,s.2.2.2.2.1.2.2.1,s.2.2.2.2.1.2.2.2),(s.2.2.2.2.2.1.1,s.2.2.2.2.2.1.2),s.2.2.2.2.2.2)) fun(x:Int×List UInt8×List Typ×List Own×(Int×List UInt8×List UInt8×Int)×(List UInt8×List Typ)×List Own)=>gd (zay (s.1+1)) (some (Sum.inl (s.1+1,x.2.1,x.2.2.1,x.2.2.2.1,(x.2.2.2.2.1.1,x.2.2.2.2.1.2.1,x.2.2.2.2.1.2.2.1,x.2.2.2.2.1.2.2.2),(x.2.2.2.2.2.1.1,x.2.2.2.2.2.1.2),x.2.2.2.2.2.2))))) (some (Sum.inr (s.1,s.2.1,s.2.2.1,s.2.2.2.1,(s.2.2.2.2.1.1,s.2.2.2.2.1.2.1,s.2.2.2.2.1.2.2.1,s.2.2.2.2.1.2.2.2),(s.2.2.2.2.2.1.1,s.2.2.2.2.2.1.2),s.2.2.2.2.2.2)))) (0,[],[],[],(0,[],[],0),(x.name,x.types),[])) fun(x:Int×List UInt8×List Typ×List Own×(Int×List UInt8×List UInt8×Int)×(List UInt8×List Typ)×List Own)=>some ((⟨⟨x.2.2.2.2.2.1.1,x.2.2.2.2.2.1.2⟩,x.2.2.2.2.2.2⟩:Chart),(⟨0,[],[],0⟩:CFault))))
def zcq:=zaj ze8
theorem zh8:∀d,zcq d=ze8 d:=congrFun (zad ze8)
def zfs:TE:=⟨9,[.lst (.nm .Part)],[],(.tup [.st .Chart,.st .CFault]),[],zcq⟩
theorem zsB:XO [zgO,zmo,zjG,zhL] cy9 c9 [.c 2 (some 3),.c 3 (some 4)] zfs:=xq zh8 fun d=>by kernel_rfl
def ziz(d:List Part×List Int):Option (List (List UInt8)):=zaa (zal (fun(s:Int×List (List UInt8))=>zab (decide (s.1<(d.2.length:Int))) (gd (decide (0<=s.1)) (zaa d.2[s.1.toNat]? fun x=>gd (decide (0<=x)) (zaa d.1[x.toNat]? fun x=>gd (decide (List.length s.2+List.length [x.name]<=LIM)) (gd (zay (s.1+1)) (some (Sum.inl (s.1+1,s.2++[x.name]))))))) (some (Sum.inr (s.1,s.2)))) (0,[])) fun(x:Int×List (List UInt8))=>some x.2
def zfO:=zaj ziz
theorem ziG:∀d,zfO d=ziz d:=congrFun (zad ziz)
def zoM:TE:=⟨23,[.lst (.nm .Part),.lst (.int .i64)],[],(.lst .str),[],zfO⟩
theorem zAQ:XO [] zI4 c23 [.t 4] zoM:=xq ziG fun d=>by kernel_rfl
def zcP(d:Own×List UInt8×List UInt8):Option Bool:=zaa (zab (d.1.type==d.2.1) (some (d.1.field==d.2.2)) (some false)) fun x=>some x
def zc0:=zaj zcP
theorem zfJ:∀d,zc0 d=zcP d:=congrFun (zad zcP)
def zc6:TE:=⟨48,[.st .Own,.ip [.str],.ip [.str]],[],(.bool),[],zc0⟩
theorem znS:XO [] zJk c48 [.t 4] zc6:=xq zfJ fun d=>by kernel_rfl
def zcn(d:List Own×List UInt8×List UInt8):Option Int:=zaa (zal (fun(s:Int)=>zab (decide (s<(d.1.length:Int))) (gd (decide (0<=s)) (zaa d.1[s.toNat]? fun x=>zaa (zc0 (x,d.2.1,d.2.2)) fun x=>zab x (some (Sum.inr (Sum.inr s))) (gd (zay (s+1)) (some (Sum.inl (s+1)))))) (some (Sum.inr (Sum.inl s)))) 0) fun(x:Int⊕Int)=>zav x (fun d=>some (-1)) fun r=>some r
def zcw:=zaj zcn
theorem ze1:∀d,zcw d=zcn d:=congrFun (zad zcn)
def zdZ:TE:=⟨47,[.lst (.nm .Own),.fn 48 [.ip [.str],.ip [.str]]],[],(.int .i64),[],zcw⟩
theorem zm2:XO [zc6] zJj c47 [.t 4] zdZ:=xq ze1 fun d=>by kernel_rfl
def zed(d:Chart×List UInt8×List UInt8):Option (List Int):=zaa (zcw (d.1.owners,d.2.1,d.2.2)) fun x=>zab (decide (x<0)) (some []) (gd (decide (0<=x)) (zaa d.1.owners[x.toNat]? fun x=>zaa (zbR x.parts) fun x=>some x))
def zcL:=zaj zed
theorem zgV:∀d,zcL d=zed d:=congrFun (zad zed)
def zgK:TE:=⟨24,[.st .Chart,.str,.str],[],(.lst (.int .i64)),[],zcL⟩
theorem zqp:XO [zdZ,zc6,zdR] zI5 c24 [.t 6] zgK:=xq zgV fun d=>by kernel_rfl
def zaH(d:List (List UInt8)×List (List UInt8)):Option Bool:=zab ((d.1.length:Int) !=(d.2.length:Int)) (some false) (zaa (zal (fun(s:Int)=>zab (decide (s<(d.1.length:Int))) (gd (decide (0<=s)) (zaa d.1[s.toNat]? fun x=>gd (decide (0<=s)) (zaa d.2[s.toNat]? fun x_1=>zab (x !=x_1) (some (Sum.inr (Sum.inr false))) (gd (zay (s+1)) (some (Sum.inl (s+1))))))) (some (Sum.inr (Sum.inl s)))) 0) fun(x:Int⊕Bool)=>zav x (fun d=>some true) fun r=>some r)
def zaK:=zaj zaH
theorem zbs:∀d,zaK d=zaH d:=congrFun (zad zaH)
def zaU:TE:=⟨25,[.lst .str,.lst .str],[],(.bool),[],zaK⟩
theorem zfB:XO [] zI6 c25 [.t 4] zaU:=xq zbs fun d=>by kernel_rfl
def zec(d:List Part×List Part):Option (List (List UInt8)):=zaa (zcq d.1) fun(x:Chart×CFault)=>zaa (zcq d.2) fun(x_1:Chart×CFault)=>zaa (zab (decide (x.2.code>0)) (some true) (some (decide (x_1.2.code>0)))) fun x_2=>zab x_2 (some []) (zaa (zal (fun(s:Int×List (List UInt8))=>zab (decide (s.1<(x.1.owners.length:Int))) (gd (decide (0<=s.1)) (zaa x.1.owners[s.1.toNat]? fun x=>zaa (zfO (d.1,x.parts)) fun x_3=>zaa (zcL ((⟨⟨x_1.1.all.name,x_1.1.all.types⟩,x_1.1.owners⟩:Chart),x.type,x.field)) fun x_4=>zaa (zfO (d.2,x_4)) fun x_5=>zaa (zab (decide ((x_5.length:Int)>0)) (zaa (zaK (x_3,x_5)) fun x=>some !x) (some false)) fun x_6=>zaa (zab x_6 (gd (decide (List.length x.type+List.length [46]<=BIG)) (gd (decide (List.length (x.type++[46])+List.length x.field<=BIG)) (gd (decide (List.length (x.type++[46]++x.field)+List.length [58,32]<=BIG)) (zaa (zaN (x_3,[32])) fun x_7=>gd (decide (List.length (x.type++[46]++x.field++[58,32])+List.length x_7<=BIG)) (gd (decide (List.length (x.type++[46]++x.field++[58,32]++x_7)+List.length [32,62,32]<=BIG)) (zaa (zaN (x_5,[32])) fun x_8=>gd (decide (List.length (x.type++[46]++x.field++[58,32]++x_7++[32,62,32])+List.length x_8<=BIG)) (gd (decide (List.length s.2+List.length [x.type++[46]++x.field++[58,32]++x_7++[32,62,32]++x_8]<=LIM)) (some (s.2++[x.type++[46]++x.field++[58,32]++x_7++[32,62,32]++x_8]))))))))) (some s.2)) fun x=>gd (zay (s.1+1)) (some (Sum.inl (s.1+1,x))))) (some (Sum.inr (s.1,s.2)))) (0,[])) fun(x:Int×List (List UInt8))=>some x.2)
def zbQ:=zaj zec
theorem zgU:∀d,zbQ d=zec d:=congrFun (zad zec)
def zgJ:TE:=⟨7,[.lst (.nm .Part),.lst (.nm .Part)],[],(.own 0),[.arr .str .no],zbQ⟩
theorem zqo:XO [zfs,zoM,zgK,zaU,zgQ] cy7 c7 [.t 4] zgJ:=xq zgU fun d=>by kernel_rfl
def zjz(d:List Part×List UInt8×List UInt8):Option (List UInt8):=zaa (zfD (d.1,d.2.1,d.2.2)) fun x=>zaa (zal (fun(s:List UInt8×Int)=>zab (decide (s.2<(x.length:Int))) (zaa (zab (decide (s.2>0)) (gd (decide (List.length s.1+List.length [32]<=BIG)) (some (s.1++[32]))) (some s.1)) fun x_1=>gd (decide (0<=s.2)) (zaa x[s.2.toNat]? fun x=>gd (decide (0<=x)) (zaa d.1[x.toNat]? fun x=>gd (decide (List.length x_1+List.length x.name<=BIG)) (gd (zay (s.2+1)) (some (Sum.inl (x_1++x.name,s.2+1))))))) (some (Sum.inr (s.1,s.2)))) ([],0)) fun(x:List UInt8×Int)=>some x.1
def zg7:=zaj zjz
theorem zlr:∀d,zg7 d=zjz d:=congrFun (zad zjz)
def zms:TE:=⟨29,[.lst (.nm .Part),.str,.str],[],(.str),[],zg7⟩
theorem zyj:XO [zhe] zI9 c29 [.t 6] zms:=xq zlr fun d=>by kernel_rfl
def zgc(d:List Part×List Part):Option (List (List UInt8)):=zaa (zc9 d.1) fun(x:Chart×CFault)=>zaa (zc9 d.2) fun(x_1:Chart×CFault)=>zaa (zab (x.2.code !=0) (some true) (some (x_1.2.code !=0))) fun x_2=>zab x_2 (some []) (zaa (zal (fun(s:Int×List (List UInt8))=>zab (decide (s.1<(x.1.owners.length:Int))) (gd (decide (0<=s.1)) (zaa x.1.owners[s.1.toNat]? fun x=>zaa (zdT ((⟨x_1.1.all.name,x_1.1.all.types⟩:Part),x.type,x.field)) fun(x_3:Field×Bool)=>zaa (zg7 (d.1,x.type,x.field)) fun x_4=>zaa (zg7 (d.2,x.type,x.field)) fun x_5=>zaa (zab x_3.2 (some (x_4 !=x_5)) (some false)) fun x_6=>zaa (zab x_6 (gd (decide (List.length x.type+List.length [46]<=BIG)) (gd (decide (List.length (x.type++[46])+List.length x.field<=BIG)) (gd (decide (List.length (x.type++[46]++x.field)+List.length [58,32]<=BIG)) (gd (decide (List.length (x.type++[46]++x.field++[58,32])+List.length x_4<=BIG)) (gd (decide (List.length (x.type++[46]++x.field++[58,32]++x_4)+List.length [32,62,32]<=BIG)) (gd (decide (List.length (x.type++[46]++x.field++[58,32]++x_4++[32,62,32])+List.length x_5<=BIG)) (gd (decide (List.length s.2+List.length [x.type++[46]++x.field++[58,32]++x_4++[32,62,32]++x_5]<=LIM)) (some (s.2++[x.type++[46]++x.field++[58,32]++x_4++[32,62,32]++x_5]))))))))) (some s.2)) fun x=>gd (zay (s.1+1)) (some (Sum.inl (s.1+1,x))))) (some (Sum.inr (s.1,s.2)))) (0,[])) fun(x:Int×List (List UInt8))=>some x.2)
def zgj:=zaj zgc
theorem ziB:∀d,zgj d=zgc d:=congrFun (zad zgc)
def ziO:TE:=⟨8,[.lst (.nm .Part),.lst (.nm .Part)],[],(.own 0),[.arr .str .no],zgj⟩
theorem zua:XO [zfW,ziR,zms] cy8 c8 [.t 4] ziO:=xq ziB fun d=>by kernel_rfl
def zhy(d:List (List UInt8)×List (List UInt8)):Option Bool:=zab ((d.1.length:Int) !=(d.2.length:Int)) (some false) (zaa (zal (fun(s:Int)=>zab (decide (s<(d.1.length:Int))) (gd (decide (0<=s)) (zaa d.1[s.toNat]? fun x=>gd (decide (0<=s)) (zaa d.2[s.toNat]? fun x_1=>zab (x !=x_1) (some (Sum.inr (Sum.inr false))) (gd (zay (s+1)) (some (Sum.inl (s+1))))))) (some (Sum.inr (Sum.inl s)))) 0) fun(x:Int⊕Bool)=>zav x (fun d=>some true) fun r=>some r)
def zhC:=zaj zhy
theorem zke:∀d,zhC d=zhy d:=congrFun (zad zhy)
def zkv:TE:=⟨10,[.lst .str,.lst .str],[],(.bool),[],zhC⟩
theorem zvP:XO [] zI0 c10 [.t 4] zkv:=xq zke fun d=>by kernel_rfl
def zgd(d:List Part):Option CFault:=zaa (zc9 d) fun(x:Chart×CFault)=>some (⟨x.2.pos,x.2.type,x.2.field,x.2.code⟩:CFault)
def zgk:=zaj zgd
theorem ziC:∀d,zgk d=zgd d:=congrFun (zad zgd)
def ziP:TE:=⟨11,[.lst (.nm .Part)],[],(.st .CFault),[],zgk⟩
theorem zub:XO [zfW] zI1 c11 [.c 2 (some 4)] ziP:=xq ziC fun d=>by kernel_rfl
def zcY(d:List Int):Option Bool:=zab (decide ((d.length:Int)>1048576)) (some true) (zaa (zcZ d) fun(x:List Part×List Part)=>zaa (zbQ (x.1,x.2)) fun x_1=>zaa (zgj (x.1,x.2)) fun x_2=>zaa (zcq x.1) fun(x_3:Chart×CFault)=>zaa (zaa (zhC (x_1,x_2)) fun x_4=>zab (!x_4) (some (true,x_1)) (zaa (zgk x.1) fun x_5=>zab (!(x_3.2.pos==x_5.pos&&(x_3.2.type==x_5.type&&(x_3.2.field==x_5.field&&(x_3.2.code==x_5.code&&true))))) (some (true,x_1)) (zaa (zbQ (x.1,x.1)) fun x=>some ((x.length:Int) !=0,x_1)))) fun(x_4:Bool×List (List UInt8))=>zab x_4.1 (some false) (zaa (zaa (zbQ (x.2,x.1)) fun x=>zab ((x.length:Int)==(x_4.2.length:Int)) (some (decide ((x_4.2.length:Int)<=(x_3.1.owners.length:Int)))) (some false)) fun x=>some x))
def zeM:=zaj zcY
theorem zfU:∀d,zeM d=zcY d:=congrFun (zad zcY)
def zeU:TE:=⟨3,[.lst (.int .u8)],[],(.bool),[],zeM⟩
theorem zn2:XO [zeO,zgJ,ziO,zfs,zkv,ziP] cy3 c3 [.t 2] zeU:=xq zfU fun d=>by kernel_rfl
end
end Go.Fw
namespace Go.Fw
open Go Go.Proofs
set_option maxRecDepth 100000
set_option linter.unusedVariables false
theorem zHE:Tryz.prog.follows .mixedOrders=true:=by kernel_rfl
theorem oP{f:FuncId}{ash:List Sh}{rsh:Sh}{F:DatL (ash++[].map RK.sh)->Option (DatL (rsh:: [].map RK.sh))}{Φ:List TE}{tys:List (Nat×An)}{c:CC}{rs:List RV}{fn:Func}(hx:XO Φ tys c rs ⟨f,ash,[],rsh,[],F⟩)(h:Tryz.prog.funcs[f]? =some fn)(k:chkF Tryz.prog fn c ash.length rs=true)(l:∀xs w,(callFunc f xs).run Tryz.prog w=.ok (.enter f xs) w)(hΦ:zsP Tryz.prog Φ)(ha:Sh.purL ash=true)(hr:rsh.pur=true):EOk Tryz.prog ⟨f,ash,[],rsh,[],F⟩:=EOk.pure ⟨⟨fn,h,k⟩,l,zHE⟩ rfl hΦ ha hr hx
theorem oT{f:FuncId}{ash:List Sh}{rin:List RK}{rsh:Sh}{rout:List RK}{F:DatL (ash++rin.map RK.sh)->Option (DatL (rsh:: rout.map RK.sh))}{Φ:List TE}{tys:List (Nat×An)}{c:CC}{rs:List RV}{fn:Func}(hx:XO Φ tys c rs ⟨f,ash,rin,rsh,rout,F⟩)(h:Tryz.prog.funcs[f]? =some fn)(k:chkF Tryz.prog fn c ash.length rs=true)(l:∀xs w,(callFunc f xs).run Tryz.prog w=.ok (.enter f xs) w)(hΦ:zsP Tryz.prog Φ)(hw:wfE ⟨f,ash,rin,rsh,rout,F⟩=true)(hne:zlV rout=false):EOk Tryz.prog ⟨f,ash,rin,rsh,rout,F⟩:=EOk.te ⟨⟨fn,h,k⟩,l,zHE⟩ rfl hΦ hw hne hx
theorem zHI:FnOk Tryz.prog 112 zId 1 [.t 2]:=⟨⟨Tryz.f112,Tryz.func112,by kernel_rfl⟩,Tryz.call112,zHE⟩
theorem zBF:EOk Tryz.prog zrv:=oT zCv Tryz.func22 (by kernel_rfl) Tryz.call22 trivial (by kernel_rfl) rfl
theorem zhY:EOk Tryz.prog zdW:=oT zvO Tryz.func45 (by kernel_rfl) Tryz.call45 trivial (by kernel_rfl) rfl
theorem zBL(n:Nat):EOk Tryz.prog (zuz n):=by
 induction n with
 |zero=>exact EOk.zeroP rfl rfl (fun _=>rfl)
 |succ n ih=>exact EOk.pure (Φ:=[zuz n]) (tys:=zFy) zHI rfl (⟨ih,trivial⟩) rfl rfl (zE3 n)
theorem zDW:EOk Tryz.prog zzD:=EOk.limP (fun n=>(zBL n))
theorem zuZ:EOk Tryz.prog zku:=oP zvN Tryz.func113 (by kernel_rfl) Tryz.call113 trivial rfl rfl
theorem zjO:EOk Tryz.prog zfF:=oP zyk Tryz.func119 (by kernel_rfl) Tryz.call119 trivial rfl rfl
theorem zgz:EOk Tryz.prog zeu:=oP zCz Tryz.func57 (by kernel_rfl) Tryz.call57 trivial rfl rfl
theorem zzq:EOk Tryz.prog zoP:=oT zAT Tryz.func145 (by kernel_rfl) Tryz.call145 ⟨zjO,zgz,trivial⟩ (by kernel_rfl) rfl
theorem zhh:EOk Tryz.prog zeF:=oP zAX Tryz.func58 (by kernel_rfl) Tryz.call58 trivial rfl rfl
theorem zzp:EOk Tryz.prog zoO:=oT zAS Tryz.func114 (by kernel_rfl) Tryz.call114 ⟨zzq,zgz,zhh,trivial⟩ (by kernel_rfl) rfl
theorem zxw:EOk Tryz.prog zmr:=oT zyi Tryz.func82 (by kernel_rfl) Tryz.call82 ⟨zhY,zDW,zuZ,zzp,trivial⟩ (by kernel_rfl) rfl
theorem zFQ:EOk Tryz.prog zyQ:=oP zGx Tryz.func146 (by kernel_rfl) Tryz.call146 trivial rfl rfl
theorem zBE:EOk Tryz.prog zru:=oP zCu Tryz.func118 (by kernel_rfl) Tryz.call118 ⟨zFQ,trivial⟩ rfl rfl
theorem zwu:EOk Tryz.prog zoh:=oP zCy Tryz.func90 (by kernel_rfl) Tryz.call90 ⟨zBE,zjO,trivial⟩ rfl rfl
theorem zDX:EOk Tryz.prog zuA:=oP zE5 Tryz.func120 (by kernel_rfl) Tryz.call120 ⟨zhh,trivial⟩ rfl rfl
theorem zzu:EOk Tryz.prog zoT:=oP zAY Tryz.func121 (by kernel_rfl) Tryz.call121 ⟨zhh,trivial⟩ rfl rfl
theorem zzt:EOk Tryz.prog zoS:=oP zAW Tryz.func91 (by kernel_rfl) Tryz.call91 ⟨zwu,zjO,zgz,zhh,zDX,zzu,trivial⟩ rfl rfl
theorem zBH:EOk Tryz.prog zrx:=oP zCx Tryz.func122 (by kernel_rfl) Tryz.call122 trivial rfl rfl
theorem zzv:EOk Tryz.prog zoU:=oP zAZ Tryz.func92 (by kernel_rfl) Tryz.call92 ⟨zBH,trivial⟩ rfl rfl
theorem zpk:EOk Tryz.prog zhI:=oP zvK Tryz.func55 (by kernel_rfl) Tryz.call55 ⟨zwu,zzt,zzv,trivial⟩ rfl rfl
theorem zu0:EOk Tryz.prog zoY:=oP zE7 Tryz.func87 (by kernel_rfl) Tryz.call87 ⟨zgz,trivial⟩ rfl rfl
theorem zmD:EOk Tryz.prog ziR:=oP zE4 Tryz.func28 (by kernel_rfl) Tryz.call28 ⟨zgz,zhh,trivial⟩ rfl rfl
theorem zmE:EOk Tryz.prog zhe:=oP zyl Tryz.func56 (by kernel_rfl) Tryz.call56 ⟨zmD,trivial⟩ rfl rfl
theorem zzw:EOk Tryz.prog zoV:=oP zA0 Tryz.func117 (by kernel_rfl) Tryz.call117 trivial rfl rfl
theorem zzy:EOk Tryz.prog zoX:=oP zA2 Tryz.func88 (by kernel_rfl) Tryz.call88 ⟨zmE,zmD,zzw,zu0,trivial⟩ rfl rfl
theorem zzx:EOk Tryz.prog zoW:=oP zA1 Tryz.func53 (by kernel_rfl) Tryz.call53 ⟨zpk,zu0,zzy,trivial⟩ rfl rfl
theorem zDZ:EOk Tryz.prog zuC:=oP zE8 Tryz.func89 (by kernel_rfl) Tryz.call89 ⟨zhh,trivial⟩ rfl rfl
theorem zDY:EOk Tryz.prog zuB:=oP zE6 Tryz.func54 (by kernel_rfl) Tryz.call54 ⟨zgz,zu0,zDZ,trivial⟩ rfl rfl
theorem zkD:EOk Tryz.prog zfW:=oP zvJ Tryz.func27 (by kernel_rfl) Tryz.call27 ⟨zzx,zDY,zpk,zmE,trivial⟩ rfl rfl
theorem zzA:EOk Tryz.prog zo0:=oP zA5 Tryz.func154 (by kernel_rfl) Tryz.call154 ⟨zmD,trivial⟩ rfl rfl
theorem ztB:EOk Tryz.prog zlF:=oP zA4 Tryz.func156 (by kernel_rfl) Tryz.call156 ⟨zgz,trivial⟩ rfl rfl
theorem zzz:EOk Tryz.prog zoZ:=oP zA3 Tryz.func155 (by kernel_rfl) Tryz.call155 ⟨zmD,ztB,trivial⟩ rfl rfl
theorem zBI:EOk Tryz.prog zry:=oP zCA Tryz.func138 (by kernel_rfl) Tryz.call138 ⟨zzA,zzz,zmD,ztB,trivial⟩ rfl rfl
theorem zBJ:EOk Tryz.prog zrz:=oP zCB Tryz.func139 (by kernel_rfl) Tryz.call139 trivial rfl rfl
theorem zrH:EOk Tryz.prog zhM:=oT zsG Tryz.func107 (by kernel_rfl) Tryz.call107 ⟨zgz,zBI,zjO,zBJ,trivial⟩ (by kernel_rfl) rfl
theorem zD0:EOk Tryz.prog zuD:=oT zE9 Tryz.func79 (by kernel_rfl) Tryz.call79 ⟨zrH,trivial⟩ (by kernel_rfl) rfl
theorem zzl:EOk Tryz.prog zoL:=oP zAO Tryz.func39 (by kernel_rfl) Tryz.call39 ⟨zkD,zD0,trivial⟩ rfl rfl
theorem zxv:EOk Tryz.prog zmq:=oT zyh Tryz.func43 (by kernel_rfl) Tryz.call43 ⟨zxw,zzl,trivial⟩ (by kernel_rfl) rfl
theorem zBG:EOk Tryz.prog zrw:=oT zCw Tryz.func83 (by kernel_rfl) Tryz.call83 trivial (by kernel_rfl) rfl
theorem znx:EOk Tryz.prog zgt:=oT zug Tryz.func44 (by kernel_rfl) Tryz.call44 ⟨zBG,trivial⟩ (by kernel_rfl) rfl
theorem zzs:EOk Tryz.prog zoR:=oT zAV Tryz.func84 (by kernel_rfl) Tryz.call84 ⟨zhY,trivial⟩ (by kernel_rfl) rfl
theorem zqg:EOk Tryz.prog zgP:=oT zqv Tryz.func46 (by kernel_rfl) Tryz.call46 ⟨znx,zhY,zzs,trivial⟩ (by kernel_rfl) rfl
theorem zzr:EOk Tryz.prog zoQ:=oT zAU Tryz.func21 (by kernel_rfl) Tryz.call21 ⟨zxv,znx,zhY,zqg,trivial⟩ (by kernel_rfl) rfl
theorem znJ:EOk Tryz.prog zeO:=oP znR Tryz.func6 (by kernel_rfl) Tryz.call6 ⟨zBF,zzr,trivial⟩ rfl rfl
theorem zzm:EOk Tryz.prog zs8:=oP zGw Tryz.func59 (by kernel_rfl) Tryz.call59 trivial rfl rfl
theorem zxs:EOk Tryz.prog zmn:=oP zyd Tryz.func125 (by kernel_rfl) Tryz.call125 ⟨zzm,trivial⟩ rfl rfl
theorem zfz:EOk Tryz.prog zaV:=oP zfC Tryz.func147 (by kernel_rfl) Tryz.call147 trivial rfl rfl
theorem zbw:EOk Tryz.prog zaA:=oP zeb Tryz.func126 (by kernel_rfl) Tryz.call126 ⟨zfz,trivial⟩ rfl rfl
theorem zjN:EOk Tryz.prog zfE:=oP zyc Tryz.func101 (by kernel_rfl) Tryz.call101 ⟨zxs,zbw,trivial⟩ rfl rfl
theorem ziZ:EOk Tryz.prog zdC:=oP zp0 Tryz.func123 (by kernel_rfl) Tryz.call123 trivial rfl rfl
theorem znM:EOk Tryz.prog zeR:=oP znY Tryz.func65 (by kernel_rfl) Tryz.call65 ⟨ziZ,trivial⟩ rfl rfl
theorem zfv:EOk Tryz.prog zcA:=oP zsD Tryz.func94 (by kernel_rfl) Tryz.call94 ⟨znM,ziZ,trivial⟩ rfl rfl
theorem zim:EOk Tryz.prog zc7:=oP znT Tryz.func110 (by kernel_rfl) Tryz.call110 trivial rfl rfl
theorem zdF:EOk Tryz.prog zbj:=oP zmg Tryz.func148 (by kernel_rfl) Tryz.call148 ⟨zjN,trivial⟩ rfl rfl
theorem zkH:EOk Tryz.prog zde:=oP zkX Tryz.func124 (by kernel_rfl) Tryz.call124 ⟨zdF,trivial⟩ rfl rfl
theorem zkF:EOk Tryz.prog zdc:=oP zkV Tryz.func97 (by kernel_rfl) Tryz.call97 ⟨zkH,zdF,trivial⟩ rfl rfl
theorem zdG:EOk Tryz.prog zbk:=oP zmh Tryz.func149 (by kernel_rfl) Tryz.call149 ⟨zjN,zim,zkF,zdF,trivial⟩ rfl rfl
theorem zkI:EOk Tryz.prog zdf:=oP zkY Tryz.func98 (by kernel_rfl) Tryz.call98 ⟨zdG,trivial⟩ rfl rfl
theorem zkG:EOk Tryz.prog zdd:=oP zkW Tryz.func68 (by kernel_rfl) Tryz.call68 ⟨zkI,zdG,trivial⟩ rfl rfl
theorem znK:EOk Tryz.prog zeP:=oP znU Tryz.func128 (by kernel_rfl) Tryz.call128 ⟨zjN,zzm,zkG,zdG,trivial⟩ rfl rfl
theorem zqe:EOk Tryz.prog zgN:=oP zqt Tryz.func130 (by kernel_rfl) Tryz.call130 trivial rfl rfl
theorem zzo:EOk Tryz.prog zoN:=oP zAR Tryz.func129 (by kernel_rfl) Tryz.call129 ⟨zbw,trivial⟩ rfl rfl
theorem zcI:EOk Tryz.prog zaR:=oP zj5 Tryz.func127 (by kernel_rfl) Tryz.call127 ⟨zfv,zim,trivial⟩ rfl rfl
theorem zi4:EOk Tryz.prog zca:=oP zjp Tryz.func98 (by kernel_rfl) Tryz.call98 ⟨zcI,trivial⟩ rfl rfl
theorem zi2:EOk Tryz.prog zb8:=oP zjn Tryz.func68 (by kernel_rfl) Tryz.call68 ⟨zi4,zcI,trivial⟩ rfl rfl
theorem zf4:EOk Tryz.prog zb6:=oP zp2 Tryz.func99 (by kernel_rfl) Tryz.call99 trivial rfl rfl
theorem zin:EOk Tryz.prog zc8:=oP znZ Tryz.func98 (by kernel_rfl) Tryz.call98 ⟨zf4,trivial⟩ rfl rfl
theorem zfw:EOk Tryz.prog zcB:=oP zsE Tryz.func67 (by kernel_rfl) Tryz.call67 ⟨zin,zf4,trivial⟩ rfl rfl
theorem zmC:EOk Tryz.prog zdV:=oT zmZ Tryz.func67 (by kernel_rfl) Tryz.call67 ⟨zin,zf4,trivial⟩ (by kernel_rfl) rfl
theorem zdE:EOk Tryz.prog zbu:=oP zpZ Tryz.func100 (by kernel_rfl) Tryz.call100 trivial rfl rfl
theorem zgx:EOk Tryz.prog zbY:=oP zme Tryz.func150 (by kernel_rfl) Tryz.call150 ⟨zdE,trivial⟩ rfl rfl
theorem zpl:EOk Tryz.prog zfX:=oP zp1 Tryz.func131 (by kernel_rfl) Tryz.call131 ⟨zfw,zgx,trivial⟩ rfl rfl
theorem zeV:EOk Tryz.prog zbL:=oP znV Tryz.func132 (by kernel_rfl) Tryz.call132 ⟨zdE,zfw,zgx,trivial⟩ rfl rfl
theorem zmI:EOk Tryz.prog zd0:=oP zm3 Tryz.func98 (by kernel_rfl) Tryz.call98 ⟨zeV,trivial⟩ rfl rfl
theorem zmF:EOk Tryz.prog zdX:=oP zm0 Tryz.func68 (by kernel_rfl) Tryz.call68 ⟨zmI,zeV,trivial⟩ rfl rfl
theorem zcJ:EOk Tryz.prog zaS:=oP zj6 Tryz.func133 (by kernel_rfl) Tryz.call133 trivial rfl rfl
theorem zi5:EOk Tryz.prog zcb:=oP zjq Tryz.func98 (by kernel_rfl) Tryz.call98 ⟨zcJ,trivial⟩ rfl rfl
theorem zi3:EOk Tryz.prog zb9:=oP zjo Tryz.func68 (by kernel_rfl) Tryz.call68 ⟨zi5,zcJ,trivial⟩ rfl rfl
theorem zlY:EOk Tryz.prog zdD:=oP zmf Tryz.func102 (by kernel_rfl) Tryz.call102 ⟨zfv,znK,zqe,zzo,zi2,zcI,zpl,zmF,zeV,zi3,zcJ,trivial⟩ rfl rfl
theorem znO:EOk Tryz.prog zeT:=oT zn1 Tryz.func51 (by kernel_rfl) Tryz.call51 ⟨zqh,trivial⟩ (by kernel_rfl) rfl
theorem zi6:EOk Tryz.prog zcc:=oT zjr Tryz.func51 (by kernel_rfl) Tryz.call51 ⟨zkJ,trivial⟩ (by kernel_rfl) rfl
theorem zqc:EOk Tryz.prog zgL:=oP zqq Tryz.func134 (by kernel_rfl) Tryz.call134 ⟨zdE,zko,trivial⟩ rfl rfl
theorem zqd:EOk Tryz.prog zgM:=oP zqs Tryz.func103 (by kernel_rfl) Tryz.call103 ⟨znO,zi6,zqc,zu1,trivial⟩ rfl rfl
theorem zrF:EOk Tryz.prog zhJ:=oP zsC Tryz.func73 (by kernel_rfl) Tryz.call73 ⟨zjN,zlY,zqd,trivial⟩ rfl rfl
theorem zqW:EOk Tryz.prog zjG:=oP zyf Tryz.func32 (by kernel_rfl) Tryz.call32 ⟨zrF,trivial⟩ rfl rfl
theorem zeW:EOk Tryz.prog zbM:=oP znW Tryz.func61 (by kernel_rfl) Tryz.call61 trivial rfl rfl
theorem zmJ:EOk Tryz.prog zd1:=oP zm4 Tryz.func93 (by kernel_rfl) Tryz.call93 ⟨zeW,trivial⟩ rfl rfl
theorem zmG:EOk Tryz.prog zdY:=oP zm1 Tryz.func60 (by kernel_rfl) Tryz.call60 ⟨zmJ,zeW,trivial⟩ rfl rfl
theorem zpm:EOk Tryz.prog ziQ:=oP zAP Tryz.func62 (by kernel_rfl) Tryz.call62 ⟨zfv,trivial⟩ rfl rfl
theorem zkn:EOk Tryz.prog zet:=oP zqr Tryz.func74 (by kernel_rfl) Tryz.call74 ⟨zfv,zfw,trivial⟩ rfl rfl
theorem zgy:EOk Tryz.prog zdq:=oP zuc Tryz.func69 (by kernel_rfl) Tryz.call69 ⟨zkn,trivial⟩ rfl rfl
theorem zi1:EOk Tryz.prog zeE:=oP zuf Tryz.func95 (by kernel_rfl) Tryz.call95 trivial rfl rfl
theorem zrM:EOk Tryz.prog zhR:=oP zsL Tryz.func98 (by kernel_rfl) Tryz.call98 ⟨zi1,trivial⟩ rfl rfl
theorem zrJ:EOk Tryz.prog zhO:=oP zsI Tryz.func68 (by kernel_rfl) Tryz.call68 ⟨zrM,zi1,trivial⟩ rfl rfl
theorem zxu:EOk Tryz.prog zmp:=oP zyg Tryz.func63 (by kernel_rfl) Tryz.call63 ⟨zgy,zrJ,zi1,trivial⟩ rfl rfl
theorem zpn:EOk Tryz.prog zhL:=oP zvL Tryz.func33 (by kernel_rfl) Tryz.call33 ⟨zkn,trivial⟩ rfl rfl
theorem zkE:EOk Tryz.prog zfY:=oP zvM Tryz.func72 (by kernel_rfl) Tryz.call72 ⟨zgy,zdE,trivial⟩ rfl rfl
theorem zf5:EOk Tryz.prog zb7:=oP zp3 Tryz.func96 (by kernel_rfl) Tryz.call96 ⟨zkE,trivial⟩ rfl rfl
theorem znN:EOk Tryz.prog zeS:=oP zn0 Tryz.func124 (by kernel_rfl) Tryz.call124 ⟨zf5,trivial⟩ rfl rfl
theorem znL:EOk Tryz.prog zeQ:=oP znX Tryz.func97 (by kernel_rfl) Tryz.call97 ⟨znN,zf5,trivial⟩ rfl rfl
theorem zrG:EOk Tryz.prog zhK:=oP zsF Tryz.func64 (by kernel_rfl) Tryz.call64 ⟨zpn,zgy,zkE,zpm,znL,zf5,trivial⟩ rfl rfl
theorem zqf:EOk Tryz.prog zgO:=oP zqu Tryz.func30 (by kernel_rfl) Tryz.call30 ⟨zzm,zqW,zmG,zeW,zpm,zxu,zrG,trivial⟩ rfl rfl
theorem znw:EOk Tryz.prog zgs:=oP zud Tryz.func66 (by kernel_rfl) Tryz.call66 trivial rfl rfl
theorem zrK:EOk Tryz.prog zhP:=oP zsJ Tryz.func65 (by kernel_rfl) Tryz.call65 ⟨znw,trivial⟩ rfl rfl
theorem zi0:EOk Tryz.prog zeD:=oP zue Tryz.func70 (by kernel_rfl) Tryz.call70 trivial rfl rfl
theorem zrL:EOk Tryz.prog zhQ:=oP zsK Tryz.func98 (by kernel_rfl) Tryz.call98 ⟨zi0,trivial⟩ rfl rfl
theorem zrI:EOk Tryz.prog zhN:=oP zsH Tryz.func68 (by kernel_rfl) Tryz.call68 ⟨zrL,zi0,trivial⟩ rfl rfl
theorem zxt:EOk Tryz.prog zmo:=oP zye Tryz.func31 (by kernel_rfl) Tryz.call31 ⟨zrK,znw,zpm,zfw,zmC,zgy,zrI,zi0,zkE,zfx,trivial⟩ rfl rfl
theorem zlX:EOk Tryz.prog zfs:=oP zsB Tryz.func9 (by kernel_rfl) Tryz.call9 ⟨zqf,zxt,zqW,zpn,trivial⟩ rfl rfl
theorem zzn:EOk Tryz.prog zoM:=oP zAQ Tryz.func23 (by kernel_rfl) Tryz.call23 trivial rfl rfl
theorem zil:EOk Tryz.prog zc6:=oP znS Tryz.func48 (by kernel_rfl) Tryz.call48 trivial rfl rfl
theorem zmH:EOk Tryz.prog zdZ:=oP zm2 Tryz.func47 (by kernel_rfl) Tryz.call47 ⟨zil,trivial⟩ rfl rfl
theorem zqb:EOk Tryz.prog zgK:=oP zqp Tryz.func24 (by kernel_rfl) Tryz.call24 ⟨zmH,zil,ziu,trivial⟩ rfl rfl
theorem zfy:EOk Tryz.prog zaU:=oP zfB Tryz.func25 (by kernel_rfl) Tryz.call25 trivial rfl rfl
theorem zqa:EOk Tryz.prog zgJ:=oT zqo Tryz.func7 (by kernel_rfl) Tryz.call7 ⟨zlX,zzn,zqb,zfy,zko,trivial⟩ (by kernel_rfl) rfl
theorem zxx:EOk Tryz.prog zms:=oP zyj Tryz.func29 (by kernel_rfl) Tryz.call29 ⟨zmE,trivial⟩ rfl rfl
theorem ztz:EOk Tryz.prog ziO:=oT zua Tryz.func8 (by kernel_rfl) Tryz.call8 ⟨zkD,zmD,zxx,trivial⟩ (by kernel_rfl) rfl
theorem zu2:EOk Tryz.prog zkv:=oP zvP Tryz.func10 (by kernel_rfl) Tryz.call10 trivial rfl rfl
theorem ztA:EOk Tryz.prog ziP:=oP zub Tryz.func11 (by kernel_rfl) Tryz.call11 ⟨zkD,trivial⟩ rfl rfl
theorem znP:EOk Tryz.prog zeU:=oP zn2 Tryz.func3 (by kernel_rfl) Tryz.call3 ⟨znJ,zqa,ztz,zlX,zu2,ztA,trivial⟩ rfl rfl
end Go.Fw
namespace Go.Fw
open Go
structure Rd (b:List Int)(p:Int)(m:Nat):Prop where
 len:b.length<=2000
 byt:∀x∈b,0<=x/\x<=255
 pos:0<=p
 far:p<=m
theorem zou{n:Int}(h1:-9223372036854775808<=n)(h2:n<=9223372036854775807):IntKind.wrap .i64 n=n:=by simp only[IntKind.wrap,IntKind.bits,IntKind.signed];simp;omega
theorem zpJ{a b:Int}(h1:0<=a)(h2:0<b):0<=Int.tmod a b/\Int.tmod a b<b:=⟨Int.tmod_nonneg _ h1,Int.tmod_lt_of_pos _ h2⟩
theorem zGy{a b:Int}(ha:0<=a)(ha2:a<9223372036854775808)(hb:0<=b)(hb2:b<9223372036854775808):
 (BitVec.toNat (BitVec.ofInt (IntKind.bits .i64) a ^^^ BitVec.ofInt (IntKind.bits .i64) b))<9223372036854775808:=by
 have h:IntKind.bits .i64=64:=rfl;rw[h,BitVec.toNat_xor,BitVec.toNat_ofInt,BitVec.toNat_ofInt];refine Nat.xor_lt_two_pow (n:=63) ?_ ?_<;>omega
theorem zEs{d:List Int}{Q:List Int×Int->Prop}(hb:∀x∈d,0<=x/\x<=255)(h:∀b,Rd b 0 0->Q (b,0)):wp (zob d) Q:=by rw[zow];unfold zn4;simp only[ywa,ywb,ywc,ywd,ywe,yhw,yhx,yhv,yhy,yhz,yhb,yhc,yhd,yhu,yhe,yhf,yhg,yhh,yhi,yhj,yhk,yhl,yhm,yhn,yho,yhp];refine⟨fun hl=>⟨⟨⟨by omega,by omega⟩,by omega⟩,h _ ⟨?_,fun x hx=>hb x (List.mem_of_mem_drop (List.mem_of_mem_take hx)),by omega,by simp⟩⟩,fun hl=>h _ ⟨by omega,hb,by omega,by simp⟩⟩;simp only[List.length_take];omega
theorem zcg{n:Int}{b:List Int}{p:Int}{m:Nat}{Q:Int×List Int×Int->Prop}(hR:Rd b p m)(hm:m<=1099511627776)(h:∀v,(1<=n->0<=v/\v<n)->(n<1->v=0)->Rd b (p+1) (m+1)->Q (v,b,p+1)):wp (zar (n,b,p)) Q:=by
 obtain⟨h1,h2,h3,h4⟩:=hR;have hR':Rd b (p+1) (m+1):=⟨h1,h2,by omega,by omega⟩
 rw[zkc];unfold zhw;simp only[ywa,ywb,ywc,ywd,ywe,yhw,yhx,yhv,yhy,yhz,yhb,yhc,yhd,yhu,yhe,yhf,yhg,yhh,yhi,yhj,yhk,yhl,yhm,yhn,yho,yhp];have hp:p+1-1=p:=by omega
 rw[hp];refine⟨by omega,fun hn=>h 0 (by omega) (fun _=>rfl) hR',fun hn=>⟨fun hl=>h 0 (fun _=>by omega) (fun _=>rfl) hR',fun hl=>⟨by omega,fun hlt=>?_,fun hge=>?_⟩⟩⟩
 ·refine⟨by omega,by omega,?_⟩;have hx:=h2 (b[p.toNat]'(by omega)) (ygh _);rw[zou (by omega) (by omega)];obtain⟨q1,q2⟩:=zpJ hx.1 (show 0<n by omega);exact⟨by omega,h _ (fun _=>⟨q1,q2⟩) (by omega) hR'⟩
 ·have hl0:(0:Int)<b.length:=by omega
  obtain⟨q1,q2⟩:=zpJ h3 hl0;obtain⟨q3,q4⟩:=zpJ (show 0<=p*7+3 by omega) hl0;have k1:(p.tmod b.length).toNat<b.length:=by omega
  have k2:((p*7+3).tmod b.length).toNat<b.length:=by omega
  have hx:=h2 (b[(p.tmod b.length).toNat]'k1) (ygh _);have hy:=h2 (b[((p*7+3).tmod b.length).toNat]'k2) (ygh _);have hd:0<=p.tdiv b.length/\p.tdiv b.length<=p:=⟨Int.tdiv_nonneg h3 (by omega),Int.tdiv_le_self _ h3⟩
  refine⟨by omega,q1,k1,?_⟩;rw[zou (n:=b[(p.tmod b.length).toNat]'k1) (by omega) (by omega)];refine⟨by omega,by omega,by omega,by omega,q3,k2,?_⟩;rw[zou (n:=b[((p*7+3).tmod b.length).toNat]'k2) (by omega) (by omega)];generalize b[(p.tmod b.length).toNat]'k1=u at hx|-;generalize b[((p*7+3).tmod b.length).toNat]'k2=v at hy|-;generalize p.tdiv b.length=e at hd|-;have hz:0<=u*131+v*1117+p*29+e*53:=by omega
  have hz2:u*131+v*1117+p*29+e*53<9223372036854775807:=by omega
  generalize hzz:u*131+v*1117+p*29+e*53=z at hz hz2|-;have hq:0<=z.tdiv 64/\z.tdiv 64<=z:=⟨Int.tdiv_nonneg hz (by omega),Int.tdiv_le_self _ hz⟩
  refine⟨by omega,by omega,by omega,by omega,by omega,by omega,by omega,by omega,by omega,by omega,?_⟩;have hxr:=zGy hz (by omega) hq.1 (by omega);rw[zou (by omega) (by omega)];obtain⟨q5,q6⟩:=zpJ (a:=((BitVec.ofInt (IntKind.bits .i64) z ^^^ BitVec.ofInt (IntKind.bits .i64) (z.tdiv 64)).toNat:Int)) (by omega) (show 0<n by omega);exact h _ (fun _=>⟨q5,q6⟩) (by omega) hR'
theorem zxI{l:List (List UInt8)}{b:List Int}{p:Int}{m:Nat}{Q:List UInt8×List Int×Int->Prop}(hR:Rd b p m)(hm:m<=1099511627776)(hl:0<l.length)(h:∀v∈l,Rd b (p+1) (m+1)->Q (v,b,p+1)):wp (zdB (l,b,p)) Q:=by rw[znb];unfold zk6;simp only[ywa,ywb,ywc,ywd,ywe,yhw,yhx,yhv,yhy,yhz,yhb,yhc,yhd,yhu,yhe,yhf,yhg,yhh,yhi,yhj,yhk,yhl,yhm,yhn,yho,yhp];refine zcg hR hm fun v hv _ hR'=>?_;obtain⟨h1,h2⟩:=hv (by omega);exact⟨by omega,by omega,h _ (ygh _) hR'⟩
end Go.Fw
namespace Go.Fw
open Go
theorem zy7{α:Type}{l:List α}{q:α->Bool}{Q:Int⊕Int->Prop}(hl:l.length<=4611686018427387904)
 (h1:∀(i:Nat)(hi:i<l.length),q l[i]=true->(∀(j:Nat)(hj:j<i),q (l[j]'(by omega))=false)->Q (.inr i))(h2:(∀x∈l,q x=false)->Q (.inl l.length)):
 wp (zal (fun s:Int=>zab (decide (s<(l.length:Int))) (gd (decide (0<=s)) (zaa l[s.toNat]? fun x=>zab (q x) (some (Sum.inr (Sum.inr s))) (gd (zay (s+1)) (some (Sum.inl (s+1)))))) (some (Sum.inr (Sum.inl s)))) 0) Q:=by
 refine zmY (fun s:Int=>0<=s/\s<=l.length/\∀(j:Nat)(hj:j<s.toNat)(hj':j<l.length),q l[j]=false) (fun s:Int=>l.length-s.toNat) ⟨by omega,by omega,fun j hj=>by simp at hj⟩ fun s ⟨i1,i2,i3⟩=>?_;simp only[ywa,ywb,ywc,ywd,ywe,yhw,yhx,yhv,yhy,yhz,yhb,yhc,yhd,yhu,yhe,yhf,yhg,yhh,yhi,yhj,yhk,yhl,yhm,yhn,yho,yhp];refine⟨fun hlt=>⟨i1,by omega,fun hq=>?_,fun hq=>⟨⟨by omega,by omega⟩,⟨by omega,by omega,fun j hj hj'=>?_⟩,by omega⟩⟩,fun hge=>?_⟩
 ·have:=h1 s.toNat (by omega) hq fun j hj=>i3 j hj (by omega);rwa [Int.toNat_of_nonneg i1]at this
 ·rcases Nat.lt_or_ge j s.toNat with h|h
  ·exact i3 j h hj'
  ·obtain rfl:j=s.toNat:=by omega
   exact hq
 ·have:s=l.length:=by omega
  rw[this];refine h2 fun x hx=>?_;obtain⟨j,hj,rfl⟩:=List.getElem_of_mem hx;exact i3 j (by omega) hj
theorem zBm(n:Nat)(d:Int):Le (zeL n d) (zeL (n+1) d):=by
 induction n generalizing d with
 |zero=>exact Le.none
 |succ n ih=>rw[zeL,zeL];exact .cond (.refl _) (.cond (.gd (.bind (ih _) fun _=>.refl _)) (.cond (.refl _) (.gd (.bind (ih _) fun _=>.refl _))))
theorem zt2(n:Int):(List.map zkB [IntKind.wrap .u8 n]).length=1:=rfl
theorem zDv(n:Nat):∀(d:Int){Q:List UInt8->Prop},0<=d->d<10 ^ (n+1)->d<9223372036854775807->n<=1000->(∀s,s.length<=n+1->Q s)->wp (zeL (n+1) d) Q:=by
 induction n with
 |zero=>intro d Q h1 h2 _ hn h;have hB:BIG=9223372036854775807:=rfl;rw[zeL];simp only[ywa,ywb,ywc,ywd,ywe,yhw,yhx,yhv,yhy,yhz,yhb,yhc,yhd,yhu,yhe,yhf,yhg,yhh,yhi,yhj,yhk,yhl,yhm,yhn,yho,yhp,zt2,yhs,yht];exact⟨by omega,fun _=>⟨by omega,fun _=>⟨fun hd=>⟨⟨by omega,by omega⟩,by omega,h _ (by rw[zt2];omega)⟩,fun hd=>by omega⟩⟩⟩
 |succ n ih=>
  intro d Q h1 h2 h5 hn h;have hB:BIG=9223372036854775807:=rfl;rw[zeL];simp only[ywa,ywb,ywc,ywd,ywe,yhw,yhx,yhv,yhy,yhz,yhb,yhc,yhd,yhu,yhe,yhf,yhg,yhh,yhi,yhj,yhk,yhl,yhm,yhn,yho,yhp,zt2,yhs,yht];refine⟨by omega,fun _=>⟨by omega,fun _=>⟨fun hd=>⟨⟨by omega,by omega⟩,by omega,h _ (by rw[zt2];omega)⟩,fun hd=>?_⟩⟩⟩;have h3:Int.tdiv d 10=d / 10:=Int.tdiv_eq_ediv_of_nonneg h1;have h4:Int.tmod d 10=d % 10:=Int.tmod_eq_emod_of_nonneg h1;rw[h3,h4];refine⟨⟨by omega,by omega⟩,ih _ (by omega) ?_ (by omega) (by omega) fun s hs=>⟨⟨by omega,by omega⟩,by omega,by omega,h _ ?_⟩⟩
  ·rw[Int.pow_succ]at h2;omega
  ·rw[yhr,zt2];omega
theorem zFA{d:Int}{Q:List UInt8->Prop}(h1:0<=d)(h2:d<1000000000000000000)(h:∀s,s.length<=18->Q s):wp (zuk d) Q:=
 zGv zBm (zDv 17 d h1 (by omega) (by omega) (by omega) h)
def zFj(s:List UInt8):Bool:=s==[105,110,116] ||s==[116,101,120,116] ||s==[98,111,111,108]
theorem zAo{s:List UInt8}{Q:Bool->Prop}(h:Q (zFj s)):wp (zct s) Q:=by
 rw[zhA];unfold zgT;simp only[ywa,ywb,ywc,ywd,ywe,yhw,yhx,yhv,yhy,yhz,yhb,yhc,yhd,yhu,yhe,yhf,yhg,yhh,yhi,yhj,yhk,yhl,yhm,yhn,yho,yhp];unfold zFj at h;refine⟨fun e=>?_,fun e1=>⟨fun e=>?_,fun e2=>?_⟩⟩
 ·subst e;exact h
 ·subst e;exact h
 ·rw[yhg.2 e1,yhg.2 e2]at h;exact h
def Fst{α:Type}(l:List α)(q:α->Bool)(r:Int):Prop:=(r= -1/\∀x∈l,q x=false)\/∃(i:Nat)(hi:i<l.length),r=i/\q l[i]=true/\∀(j:Nat)(hj:j<i),q (l[j]'(by omega))=false
theorem zAH{p:Part}{nm:List UInt8}{Q:Int->Prop}(hl:p.types.length<=4611686018427387904)(h:∀r,Fst p.types (fun t=>t.name==nm) r->Q r):wp (zbX (p,nm)) Q:=by
 rw[zkr];unfold zk9;rw[ywb];refine zy7 hl (fun i hi hq hn=>?_) fun hn=>?_
 ·exact ywd.2 (h _ (.inr ⟨i,hi,rfl,hq,hn⟩))
 ·exact ywd.2 (h _ (.inl ⟨rfl,hn⟩))
theorem zwh{t:Typ}{nm:List UInt8}{Q:Int->Prop}(hl:t.fields.length<=4611686018427387904)(h:∀r,Fst t.fields (fun t=>t.name==nm) r->Q r):wp (zb4 (t,nm)) Q:=by
 rw[ziK];unfold ziA;rw[ywb];refine zy7 hl (fun i hi hq hn=>?_) fun hn=>?_
 ·exact ywd.2 (h _ (.inr ⟨i,hi,rfl,hq,hn⟩))
 ·exact ywd.2 (h _ (.inl ⟨rfl,hn⟩))
theorem Fst.at{α:Type}{l:List α}{q:α->Bool}{r:Int}(h:Fst l q r)(h0:0<=r):∃hi:r.toNat<l.length,q l[r.toNat]=true:=by
 rcases h with⟨h,_⟩|⟨i,hi,rfl,hq,_⟩
 ·omega
 ·exact⟨hi,hq⟩
theorem Fst.some{α:Type}{l:List α}{q:α->Bool}{r:Int}(h:Fst l q r)(hx:∃x∈l,q x=true):0<=r:=by
 rcases h with⟨_,h⟩|⟨i,hi,rfl,_⟩
 ·obtain⟨x,hx,hq⟩:=hx;rw[h x hx]at hq;cases hq
 ·omega
structure SmF (f:Field):Prop where
 name:f.name.length<=100
 of:f.of.length<=100
 needs:f.needs.length<=100
 need:∀x∈f.needs,x.length<=100
structure SmT (N:Nat)(t:Typ):Prop where
 name:t.name.length<=100
 key:t.key.length<=100
 fields:t.fields.length<=N
 field:∀f∈t.fields,SmF f
structure SmP (N:Nat)(p:Part):Prop where
 name:p.name.length<=100
 types:p.types.length<=N
 type:∀t∈p.types,SmT N t
theorem SmT.up{N M:Nat}{t:Typ}(h:SmT N t)(hn:N<=M):SmT M t:=⟨h.name,h.key,Nat.le_trans h.fields hn,h.field⟩
theorem SmP.up{N M:Nat}{p:Part}(h:SmP N p)(hn:N<=M):SmP M p:=⟨h.name,Nat.le_trans h.types hn,fun t ht=>(h.type t ht).up hn⟩
theorem zz3{N:Nat}{pn nm:List UInt8}{ts:List Typ}{Q:List UInt8×List Typ->Prop}(hN:N<=100000)(hp:SmP N ⟨pn,ts⟩)(hn:nm.length<=100)(h:∀ts',SmP (N+1) ⟨pn,ts'⟩->(∃l,ts'=ts++l)->(zFj nm=true\/∃t∈ts',(t.name==nm)=true)->Q (pn,ts')):wp (ziI (pn,nm,ts)) Q:=by
 have hL:LIM=1099511627776:=rfl;have hN1:=hp.types;have hN2:ts.length<=N:=hp.types;have key:∀k fs,k.length<=100->fs.length=1->(∀f∈fs,SmF f)->SmP (N+1) ⟨pn,ts++[⟨nm,k,fs⟩]⟩:=fun k fs hk hf1 hf=>by
  refine⟨hp.name,by simp only[yhr,yhs,yht];omega,fun t ht=>?_⟩;rcases List.mem_append.1 ht with ht|ht
  ·exact(hp.type t ht).up (by omega)
  ·obtain rfl:=List.mem_singleton.1 ht;exact⟨hn,hk,by show fs.length<=_;omega,hf⟩
 have fld:∀f:Field,f.name.length<=100->f.of.length<=100->f.needs=[]->∀g∈[f],SmF g:=fun f h1 h2 h3 g hg=>by obtain rfl:=List.mem_singleton.1 hg;exact⟨h1,h2,by rw[h3];simp,by rw[h3];simp⟩
 rw[zm9];unfold zk4;simp only[ywa,ywb,ywc,ywd,ywe,yhw,yhx,yhv,yhy,yhz,yhb,yhc,yhd,yhu,yhe,yhf,yhg,yhh,yhi,yhj,yhk,yhl,yhm,yhn,yho,yhp,yhs,yht];refine zAo ⟨fun hs=>h ts (hp.up (by omega)) ⟨[],by simp⟩ (.inl hs),fun _=>?_⟩;refine zAH (by show ts.length<=_;omega) fun r hr=>⟨fun h0=>?_,fun _=>⟨fun _=>?_,fun _=>?_⟩⟩
 ·obtain⟨hi,hq⟩:=hr.at h0;exact h ts (hp.up (by omega)) ⟨[],by simp⟩ (.inr ⟨_,ygh _,hq⟩)
 ·exact⟨by omega,h _ (key _ _ (by simp) rfl (fld _ (by simp) (by simp) rfl)) ⟨_,rfl⟩ (.inr ⟨_,List.mem_append_right _ (List.mem_singleton.2 rfl),by simp⟩)⟩
 ·exact⟨by omega,h _ (key _ _ (by simp) rfl (fld _ (by simp) (by simp) rfl)) ⟨_,rfl⟩ (.inr ⟨_,List.mem_append_right _ (List.mem_singleton.2 rfl),by simp⟩)⟩
end Go.Fw
namespace Go.Fw
open Go
theorem SmP.set{N:Nat}{pn:List UInt8}{ts:List Typ}(hp:SmP N ⟨pn,ts⟩)(i:Nat){t:Typ}(ht:SmT N t):SmP N ⟨pn,ts.set i t⟩:=by
 refine⟨hp.name,by have:=hp.types;simpa using this,fun u hu=>?_⟩;rcases List.mem_or_eq_of_mem_set hu with hu|rfl
 ·exact hp.type u hu
 ·exact ht
theorem zDG{N:Nat}{pn nm:List UInt8}{f:Field}{ts:List Typ}{Q:List UInt8×List Typ->Prop}(hN:N<=10000)(hp:SmP N ⟨pn,ts⟩)(hn:nm.length<=100)(hs:zFj nm=false)(hf:SmF f)(hfn:f.needs.length<=1)
 (h:∀ts',SmP (N+4) ⟨pn,ts'⟩->Q (pn,ts')):wp (zg4 (pn,nm,f,ts)) Q:=by
 have hL:LIM=1099511627776:=rfl;rw[zm8];unfold zk3;simp only[ywb];refine zz3 (by omega) hp hn fun t1 hp1 _ hs1=>?_;refine zz3 (by omega) hp1 hf.of fun t2 hp2 ⟨l2,e2⟩ _=>?_;have hl2:t2.length<=N+1+1:=hp2.types;refine zAH (by show t2.length<=_;omega) fun r hr=>?_;have hr0:0<=r:=hr.some (by
  rcases hs1 with h|⟨t,ht,hq⟩
  ·rw[hs]at h;cases h
  ·exact⟨t,by show t∈t2;rw[e2];exact List.mem_append_left _ ht,hq⟩)
 obtain⟨hi,hq⟩:=hr.at hr0;change r.toNat<t2.length at hi;have hT:SmT (N+1+1) t2[r.toNat]:=hp2.type _ (ygh _);have hTf:=hT.fields;simp only[ywa,ywb,ywc,ywd,ywe,yhw,yhx,yhv,yhy,yhz,yhb,yhc,yhd,yhu,yhe,yhf,yhg,yhh,yhi,yhj,yhk,yhl,yhm,yhn,yho,yhp,List.set_getElem_self,List.getElem_set_self,List.length_set,yhs,yht];refine⟨⟨hr0,by omega⟩,hi,zwh (by omega) fun k hk=>⟨fun hk0=>?_,fun hk0=>?_⟩⟩
 ·obtain⟨hki,_⟩:=hk.at hk0;refine⟨⟨hr0,by omega⟩,hi,⟨hk0,by omega⟩,hki,fun _=>h _ (hp2.up (by omega)),fun _=>⟨⟨hr0,by omega⟩,hi,⟨hk0,by omega⟩,hki,h _ ((hp2.up (by omega)).set _ ?_)⟩⟩;refine⟨hT.name,hT.key,by show(List.set _ _ _).length<=_;rw[List.length_set];omega,fun g hg=>?_⟩;rcases List.mem_or_eq_of_mem_set hg with hg|rfl
  ·exact hT.field g hg
  ·exact⟨hf.name,hf.of,hf.needs,hf.need⟩
 ·refine zmY (fun s:Int×List UInt8×List Typ×List UInt8×List Typ=>0<=s.1/\s.1<=f.needs.length/\s.2.1=pn/\s.2.2.1.length=t2.length/\SmP (N+2+s.1.toNat) ⟨pn,s.2.2.1⟩) (fun s=>f.needs.length-s.1.toNat)
   ⟨by simp,by simp,rfl,rfl,hp2.up (by simp)⟩ fun s ⟨i1,i2,i3,i4,i5⟩=>?_
  have app:∀(ts:List Typ)(M:Nat)(hi:r.toNat<ts.length)(g:Field),SmP M ⟨pn,ts⟩->SmF g->SmP (M+1) ⟨pn,ts.set r.toNat ⟨ts[r.toNat].name,ts[r.toNat].key,ts[r.toNat].fields++[g]⟩⟩:=fun ts M hi g h hg=>by
   have hT:=h.type _ (ygh hi);have:=hT.fields;refine(h.up (by omega)).set _ ⟨hT.name,hT.key,by simp only[yhr,yhs,yht];omega,fun u hu=>?_⟩;rcases List.mem_append.1 hu with hu|hu
   ·exact hT.field u hu
   ·obtain rfl:=List.mem_singleton.1 hu;exact hg
  have hlen:∀(ts:List Typ)(M:Nat)(hi:r.toNat<ts.length),SmP M ⟨pn,ts⟩->(ts[r.toNat].fields).length<=M:=fun ts M hi h=>(h.type _ (ygh hi)).fields;simp only[ywa,ywb,ywc,ywd,ywe,yhw,yhx,yhv,yhy,yhz,yhb,yhc,yhd,yhu,yhe,yhf,yhg,yhh,yhi,yhj,yhk,yhl,yhm,yhn,yho,yhp,List.set_getElem_self,List.getElem_set_self,List.length_set,yhs,yht];refine⟨fun hlt=>⟨⟨hr0,by omega⟩,by omega,i1,by omega,?_⟩,fun hge=>?_⟩
  ·have hl:=hlen s.2.2.1 _ (by omega) i5;refine zwh (by omega) fun k hk=>⟨fun _=>⟨⟨hr0,by omega⟩,by omega,i1,by omega,by omega,⟨hr0,by omega⟩,⟨by omega,by omega⟩,⟨by omega,by omega,i3,i4,?_⟩,by omega⟩,fun _=>⟨⟨by omega,by omega⟩,⟨by omega,by omega,i3,i4,i5.up (by omega)⟩,by omega⟩⟩
   have:=app s.2.2.1 _ (by omega) ⟨f.needs[s.1.toNat]'(by omega),[105,110,116],false,false,true,false,false,[]⟩ i5 ⟨hf.need _ (ygh _),by simp,by simp,by simp⟩;exact this.up (by omega)
  ·have hl:=hlen s.2.2.1 _ (by omega) i5;refine⟨⟨hr0,by omega⟩,by omega,by omega,⟨hr0,by omega⟩,?_⟩;rw[i3];exact h _ ((app s.2.2.1 _ (by omega) f i5 hf).up (by omega))
end Go.Fw
namespace Go.Fw
open Go
theorem zt9{α β:Type}{x:Option α}{f:α->Option β}{Q:β->Prop}(R:α->Prop)(h:wp x R)(hf:∀a,R a->wp (f a) Q):wp (zaa x f) Q:=ywb.2 (h.mono hf)
def zH6(f:Field):Bool:=decide (f.name.length<=100)&&decide (f.of.length<=100)&&decide (f.needs.length<=1)&&f.needs.all fun x=>decide (x.length<=100)
theorem zGs{f:Field}(h:zH6 f=true):SmF f/\f.needs.length<=1:=by simp only[zH6,yhb,yhc,List.all_eq_true]at h;obtain⟨⟨⟨h1,h2⟩,h3⟩,h4⟩:=h;exact⟨⟨h1,h2,by omega,h4⟩,h3⟩
noncomputable def zkx:List Typ:=(zhv ()).getD []
theorem zxe:zhz ()=some zkx:=(zkb ()).trans rfl
theorem zpb:zkx.length=4:=by kernel_rfl
theorem zuM:(zkx.all fun t=>decide (t.name.length<=100)&&decide (t.key.length<=100)&&!(zFj t.name)&&decide (t.fields.length<=7)&&t.fields.all zH6)=true:=by kernel_rfl
theorem zxf{t:Typ}(h:t∈zkx):t.name.length<=100/\t.key.length<=100/\zFj t.name=false/\t.fields.length<=7/\∀f∈t.fields,SmF f/\f.needs.length<=1:=by have:=List.all_eq_true.1 zuM t h;simp only[yhb,yhc,yho,List.all_eq_true]at this;obtain⟨⟨⟨⟨h1,h2⟩,h3⟩,h4⟩,h5⟩:=this;exact⟨h1,h2,h3,h4,fun f hf=>zGs (h5 f hf)⟩
structure Pts (n N:Nat)(ps:List Part):Prop where
 len:ps.length=n
 sm:∀p∈ps,SmP N p
theorem Pts.up{n N M:Nat}{ps:List Part}(h:Pts n N ps)(hN:N<=M):Pts n M ps:=⟨h.len,fun p hp=>(h.sm p hp).up hN⟩
theorem Pts.set{n N:Nat}{ps:List Part}(h:Pts n N ps)(i:Nat){p:Part}(hp:SmP N p):Pts n N (ps.set i p):=by
 refine⟨by rw[List.length_set];exact h.len,fun q hq=>?_⟩;rcases List.mem_or_eq_of_mem_set hq with hq|rfl
 ·exact h.sm q hq
 ·exact hp
theorem Rd.up{b:List Int}{p:Int}{m k:Nat}(h:Rd b p m)(hk:m<=k):Rd b p k:=⟨h.len,h.byt,h.pos,by have:=h.far;omega⟩
abbrev zCC:=List UInt8×List UInt8×Bool×Bool×Bool×Bool×Bool×List (List UInt8)
structure FTok (x:zCC):Prop where
 name:x.1.length<=100
 of:x.2.1.length<=100
 needs:x.2.2.2.2.2.2.2.length<=1
 need:∀y∈x.2.2.2.2.2.2.2,y.length<=100
theorem FTok.sm{x:zCC}(h:FTok x)(a b c d e:Bool):SmF ⟨x.1,x.2.1,a,b,c,d,e,x.2.2.2.2.2.2.2⟩:=⟨h.name,h.of,Nat.le_trans h.needs (by omega),h.need⟩
theorem FTok.tr{x y:zCC}(h:FTok x)(h1:y.1=x.1)(h2:y.2.1=x.2.1)(h3:y.2.2.2.2.2.2.2=x.2.2.2.2.2.2.2):FTok y:=⟨h1 ▸ h.name,h2 ▸ h.of,h3 ▸ h.needs,h3 ▸ h.need⟩
theorem zB0{b:List Int}{p:Int}{m:Nat}{Q:List Part×List Int×Int->Prop}(hR:Rd b p m)(hm:m<=1000000000000)
 (h:∀ps b' p' n,1<=n->n<=3->Pts n 300 ps->Rd b' p' (m+400)->Q (ps,b',p')):wp (zjD (b,p)) Q:=by
 have hL:LIM=1099511627776:=rfl;have hB:BIG=9223372036854775807:=rfl;rw[zlq];unfold zjy;simp only[ywb];refine zcg hR (by omega) fun v hv _ hR1=>?_;have hv:=hv (by omega);rw[ywa];refine⟨zd2 (by omega) (by omega),?_⟩;rw[ywb];refine zmY (fun s:Int×(List Int×Int)×List Part=>0<=s.1/\s.1<=1+v/\s.2.1=(b,p+1)/\Pts s.1.toNat 1 s.2.2) (fun s=>(1+v).toNat-s.1.toNat) ⟨by simp,by omega,rfl,rfl,by simp⟩ fun s ⟨i1,i2,i3,i4⟩=>?_;have il:=i4.len;simp only[ywa,ywb,ywc,ywd,ywe,yhw,yhx,yhv,yhy,yhz,yhb,yhc,yhd,yhu,yhe,yhf,yhg,yhh,yhi,yhj,yhk,yhl,yhm,yhn,yho,yhp,yhs,yht];refine⟨fun hlt=>⟨i1,by omega,zFA i1 (by omega) fun ds hds=>⟨by omega,by omega,⟨by omega,by omega⟩,⟨by omega,by omega,i3,?_⟩,by omega⟩⟩,fun hge=>?_⟩
 ·refine⟨by simp only[yhr,yhs,yht];omega,fun q hq=>?_⟩;rcases List.mem_append.1 hq with hq|hq
  ·exact i4.sm q hq
  ·obtain rfl:=List.mem_singleton.1 hq;refine⟨?_,by simp,fun t ht=>?_⟩
   ·have hx:∀x∈([[101,97,115,116],[119,101,115,116],[110,111,114,116,104]]:List (List UInt8)),x.length<=100:=by decide
    exact hx _ (ygh _)
   ·obtain rfl:=List.mem_singleton.1 ht;refine⟨by simp,by simp,by simp,fun f hf=>?_⟩;obtain rfl:=List.mem_singleton.1 hf;exact⟨by simp;omega,by simp,by simp,by simp⟩
 have hs:s.1=1+v:=by omega
 rw[i3];refine⟨_,zxe,?_⟩;refine zcg hR1 (by omega) fun home hhome _ hR2=>?_;have hhome:=hhome (by omega);refine zmY (fun t:Int×(List Int×Int)×List Part=>0<=t.1/\t.1<=4/\Rd t.2.1.1 t.2.1.2 (m+2+70*t.1.toNat)/\Pts (1+v).toNat (1+64*t.1.toNat) t.2.2) (fun t=>4-t.1.toNat)
  ⟨by simp,by simp,hR2.up (by simp),by have:=i4.up (M:=1+64*0) (by omega);rw[hs]at this;exact this⟩ fun t ⟨j1,j2,j3,j4⟩=>?_
 rw[ywc,zpb];simp only[yhc,yhd];refine⟨fun hlt=>?_,fun hge=>?_⟩
 ·have hti:t.1.toNat<zkx.length:=by rw[zpb];omega
  obtain⟨g1,g2,g3,g4,g5⟩:=zxf (ygh hti);rw[ywb];refine zmY (fun u:Int×(List Int×Int)×List Part=>0<=u.1/\u.1<=(zkx[t.1.toNat]'hti).fields.length/\Rd u.2.1.1 u.2.1.2 (m+2+70*t.1.toNat+8*u.1.toNat)/\Pts (1+v).toNat (1+64*t.1.toNat+8*u.1.toNat) u.2.2) (fun u=>7-u.1.toNat)
   ⟨by simp,by simp,j3.up (by simp),j4.up (by simp)⟩ fun u ⟨k1,k2,k3,k4⟩=>?_
  have k5:=k4.len;rw[ywa,ywb,ywe];refine⟨by simpa using j1,hti,?_⟩;generalize hT:zkx[t.1.toNat]'hti=T at g1 g2 g3 g4 g5 k2|-;rw[ywc];simp only[yhc,yhd];refine⟨fun hu=>?_,fun hu=>?_⟩
  ·rw[ywa,ywb,ywe];refine⟨by simpa using j1,hti,?_⟩;rw[hT];rw[ywa,ywb,ywe];refine⟨by simpa using k1,by omega,?_⟩;have hf:=g5 (T.fields[u.1.toNat]'(by omega)) (ygh _);generalize T.fields[u.1.toNat]'(by omega)=f at hf;have hft:FTok (f.name,f.of,f.list,f.must,f.far,f.hidden,f.shared,f.needs):=⟨hf.1.name,hf.1.of,hf.2,hf.1.need⟩
   generalize hM:m+2+70*t.1.toNat+8*u.1.toNat=M at k3;generalize hN:1+64*t.1.toNat+8*u.1.toNat=N at k4;refine zt9 (fun x:Bool×(List Int×Int)×List Part×zCC=>Rd x.2.1.1 x.2.1.2 (M+1)/\x.2.2.1=u.2.2/\FTok x.2.2.2) ?_ fun x7 ⟨a1,a2,a3⟩=>?_
   ·simp only[ywa,ywb,ywc,ywd,ywe,yhw,yhx,yhv,yhy,yhz,yhb,yhc,yhd,yhu,yhe,yhf,yhg,yhh,yhi,yhj,yhk,yhl,yhm,yhn,yho,yhp];refine⟨fun _=>⟨k3.up (by omega),hft⟩,fun _=>⟨fun _=>⟨k3.up (by omega),hft⟩,fun _=>⟨fun _=>⟨fun _=>?_,fun _=>⟨k3.up (by omega),hft⟩⟩,fun _=>⟨k3.up (by omega),hft⟩⟩⟩⟩;exact zcg k3 (by omega) fun _ _ _ h=>⟨h,hft⟩
   rw[ywc];refine⟨fun _=>?_,fun _=>?_⟩
   ·simp only[ywa,ywb,ywc,ywd,ywe,yhw,yhx,yhv,yhy,yhz,yhb,yhc,yhd,yhu,yhe,yhf,yhg,yhh,yhi,yhj,yhk,yhl,yhm,yhn,yho,yhp];exact⟨by omega,⟨by omega,by omega,a1.up (by omega),by rw[a2];exact k4.up (by omega)⟩,by omega⟩
   rw[ywb];refine zcg a1 (by omega) fun to hto _ hR8=>?_;have hto:=hto (by omega);refine zt9 (fun x:Bool×(List Int×Int)×List Part×zCC=>Rd x.2.1.1 x.2.1.2 (M+3)/\x.2.2.1=u.2.2/\FTok x.2.2.2) ?_ fun x9 ⟨b1,b2,b3⟩=>?_
   ·simp only[ywa,ywb,ywc,ywd,ywe,yhw,yhx,yhv,yhy,yhz,yhb,yhc,yhd,yhu,yhe,yhf,yhg,yhh,yhi,yhj,yhk,yhl,yhm,yhn,yho,yhp];refine⟨fun _=>zcg hR8 (by omega) fun _ _ _ h=>⟨h,a2,a3⟩,fun _=>⟨j1,hti,fun _=>zcg hR8 (by omega) fun _ _ _ h=>⟨h,a2,a3⟩,fun _=>⟨hR8.up (by omega),a2,a3⟩⟩⟩
   refine zt9 (fun x:Int×(List Int×Int)×List Part×zCC=>0<=x.1/\x.1<1+v/\Rd x.2.1.1 x.2.1.2 (M+3)/\x.2.2.1=u.2.2/\FTok x.2.2.2) ?_ fun x10 ⟨c1,c2,c3,c4,c5⟩=>?_
   ·simp only[ywa,ywb,ywc,ywd,ywe,yhw,yhx,yhv,yhy,yhz,yhb,yhc,yhd,yhu,yhe,yhf,yhg,yhh,yhi,yhj,yhk,yhl,yhm,yhn,yho,yhp];exact⟨fun _=>⟨hhome.1,hhome.2,b1,b2,b3⟩,fun _=>⟨hto.1,hto.2,b1,b2,b3⟩⟩
   rw[ywb];refine zcg c3 (by omega) fun hid _ _ hR11=>?_;refine zt9 (fun x:Bool×(List Int×Int)×List Part×zCC=>Rd x.2.1.1 x.2.1.2 (M+6)/\x.2.2.1=u.2.2/\FTok x.2.2.2) ?_ fun x12 ⟨d1,d2,d3⟩=>?_
   ·simp only[ywa,ywb,ywc,ywd,ywe,yhw,yhx,yhv,yhy,yhz,yhb,yhc,yhd,yhu,yhe,yhf,yhg,yhh,yhi,yhj,yhk,yhl,yhm,yhn,yho,yhp];refine⟨fun _=>zcg hR11 (by omega) fun _ _ _ h=>⟨h.up (by omega),c4,c5.tr rfl rfl rfl⟩,fun _=>zcg hR11 (by omega) fun _ _ _ h=>⟨fun _=>zcg h (by omega) fun _ _ _ h=>⟨h,c4,c5.tr rfl rfl rfl⟩,fun _=>⟨h.up (by omega),c4,c5.tr rfl rfl rfl⟩⟩⟩
   have give:∀(ps:List Part)(i:Int)(K:Nat)(g:Field){R:List UInt8×List Typ->Prop},K<=10000->Pts (1+v).toNat K ps->(hi:i.toNat<ps.length)->SmF g->g.needs.length<=1->(∀ts',Pts (1+v).toNat (K+4) (ps.set i.toNat ⟨ps[i.toNat].name,ts'⟩)->R (ps[i.toNat].name,ts'))->
    wp (zg4 (ps[i.toNat].name,T.name,g,ps[i.toNat].types)) R:=fun ps i K g R hK hps hi hg hgn hr=>
    zDG hK (hps.sm _ (ygh hi)) g1 g3 hg hgn fun ts' hts=>hr ts' ((hps.up (by omega)).set _ hts)
   refine zt9 (fun x:(List Int×Int)×List Part×zCC=>Rd x.1.1 x.1.2 (M+6)/\Pts (1+v).toNat (N+4) x.2.1/\FTok x.2.2) ?_ fun x ⟨e1,e2,e3⟩=>?_
   ·simp only[ywa,ywb,ywc,ywd,ywe,yhw,yhx,yhv,yhy,yhz,yhb,yhc,yhd,yhu,yhe,yhf,yhg,yhh,yhi,yhj,yhk,yhl,yhm,yhn,yho,yhp];refine⟨fun _=>?_,fun _=>⟨d1,by rw[d2];exact k4.up (by omega),d3⟩⟩;obtain⟨q1,q2⟩:=zpJ (show 0<=x10.1+1 by omega) (show 0<1+v by omega);have q3:(Int.tmod (x10.1+1) (1+v)).toNat<x12.2.2.1.length:=by rw[d2,k5];omega
    refine⟨by omega,by omega,by omega,by omega,⟨q1,by omega⟩,q3,j1,hti,?_⟩;rw[hT];refine give x12.2.2.1 _ N _ (by omega) (by rw[d2];exact k4) q3 (d3.sm _ _ _ _ _) d3.needs fun ts' hts=>?_;exact⟨⟨q1,by omega⟩,d1,hts,d3.tr rfl rfl rfl⟩
   have e4:=e2.len;have e5:x10.1.toNat<x.2.1.length:=by omega
   simp only[ywa,ywb,ywc,ywd,ywe,yhw,yhx,yhv,yhy,yhz,yhb,yhc,yhd,yhu,yhe,yhf,yhg,yhh,yhi,yhj,yhk,yhl,yhm,yhn,yho,yhp];refine⟨⟨c1,by omega⟩,e5,j1,hti,?_⟩;rw[hT];refine give x.2.1 _ (N+4) _ (by omega) e2 e5 (e3.sm _ _ _ _ _) e3.needs fun ts' hts=>?_;exact⟨⟨c1,by omega⟩,by omega,⟨by omega,by omega,e1.up (by omega),hts.up (by omega)⟩,by omega⟩
  ·simp only[ywa,ywb,ywc,ywd,ywe,yhw,yhx,yhv,yhy,yhz,yhb,yhc,yhd,yhu,yhe,yhf,yhg,yhh,yhi,yhj,yhk,yhl,yhm,yhn,yho,yhp];exact⟨by omega,⟨by omega,by omega,k3.up (by omega),k4.up (by omega)⟩,by omega⟩
 ·simp only[ywa,ywb,ywc,ywd,ywe,yhw,yhx,yhv,yhy,yhz,yhb,yhc,yhd,yhu,yhe,yhf,yhg,yhh,yhi,yhj,yhk,yhl,yhm,yhn,yho,yhp];exact h _ _ _ (1+v).toNat (by omega) (by omega) (j4.up (by omega)) (j3.up (by omega))
end Go.Fw
namespace Go.Fw
open Go
set_option linter.unusedSimpArgs false
set_option linter.unusedVariables false
abbrev KK:Nat:=1048576
def KS(N:Nat)(l:List (List UInt8)):Prop:=l.length<=N/\∀s∈l,s.length<=N
def KF(N:Nat)(f:Field):Prop:=f.name.length<=N/\f.of.length<=N/\KS N f.needs
def KT(N:Nat)(t:Typ):Prop:=t.name.length<=N/\t.key.length<=N/\t.fields.length<=N/\∀f∈t.fields,KF N f
def KP(N:Nat)(p:Part):Prop:=p.name.length<=N/\p.types.length<=N/\∀t∈p.types,KT N t
def KL(N:Nat)(ps:List Part):Prop:=ps.length<=N/\∀p∈ps,KP N p
end Go.Fw
namespace Go.Fw
open Go
set_option linter.unusedSimpArgs false
set_option linter.unusedVariables false
theorem zAE(n a b:Int):zvT (n,a,b)=some (decide (a<=n)&&decide (n<=b)):=by rw[zsR];unfold zvS;simp only[zBs,zac,ge_iff_le];cases decide (a<=n)<;>rfl
theorem zlT(n a b:Int):zli (n,a,b)=some (decide (a<=n)&&decide (n<=b)):=by rw[zsQ];unfold zvR;simp only[zBs,zac,ge_iff_le];cases decide (a<=n)<;>rfl
def zCI(i:Nat)(c:UInt8):Bool:=(decide (97<=zaB c)&&decide (zaB c<=122)) ||zaB c==95 ||(decide (0<i)&&decide (48<=zaB c)&&decide (zaB c<=57))
def zt8(s:List UInt8):Bool:=decide (1<=s.length)&&decide (s.length<=9)&&zqD zCI 0 s
theorem zut(i:Nat):decide ((i:Int)>0)=decide (0<i):=by simp
theorem zDp(i:Nat):((i:Int)==0)= !decide (0<i):=by
 by_cases h:i=0
 ·subst h;rfl
 ·have h1:((i:Int)==0)=false:=by simpa using h
  rw[h1];simp;omega
theorem zFv(n:Nat):decide ((1:Int)<=(n:Int))=decide (1<=n):=by simp;omega
theorem zFw(n:Nat):decide ((n:Int)<=9)=decide (n<=9):=by simp;omega
theorem zvr{s:List UInt8}(hl:s.length<=4611686018427387904):zoa s=some (zt8 s):=by
 rw[zov];unfold zn3;rw[zAE,zac,zFv,zFw];unfold zt8;cases hb:(decide (1<=s.length)&&decide (s.length<=9))with
 |false=>rfl
 |true=>
  simp only[Bool.not_true,zae,Bool.true_and];rw[zcj (s0:=(0:Int)) s (fun i=>(i:Int)) (s.length:Int) (fun i c=>bif zCI i c then none else some false) rfl ?_ ?_]
  ·rw[zce];cases zqD zCI 0 s<;>rfl
  ·intro i h;have h3:=zam h hl;simp only[zaD h,zax,zai h,zaf,zag,zac,zBs,zut,ge_iff_le,h3];generalize s[i]=c;unfold zCI;cases decide (97<=zaB c)<;>cases decide (zaB c<=122)<;>cases(zaB c==95)<;>cases decide (0<i)<;>cases decide (48<=zaB c)<;>cases decide (zaB c<=57)<;>rfl
  ·simp only[zan,zae]
theorem zAN{n:Int}(h1:-9223372036854775808<=n)(h2:n<=9223372036854775807):IntKind.wrap .i64 n=n:=by simp only[IntKind.wrap,IntKind.bits,IntKind.signed];simp;omega
theorem zAM(c:UInt8):IntKind.wrap .i64 (zaB c)=zaB c:=by have:c.toNat<256:=c.toNat_lt;exact zAN (by unfold zaB;omega) (by unfold zaB;omega)
theorem zuX{s:List UInt8}(hl:s.length<=4611686018427387904):zjB s=some (zt8 s):=by
 rw[zlk];unfold zjt;rw[zcj (s0:=(0:Int)) s (fun i=>(i:Int)) (s.length:Int) (fun i c=>bif zCI i c then none else some false) rfl ?_ ?_]
 ·rw[zce];simp only[zlT,zac,zav,zFv,zFw];unfold zt8;cases zqD zCI 0 s<;>simp[zac]
 ·intro i h;have h3:=zam h hl;have h4:(List.map zaB s)[Int.toNat (i:Int)]? =some (zaB s[i]):=by simp[h]
  simp only[List.length_map,zaD h,zax,h4,zaf,zag,zac,zBs,zDp,ge_iff_le,h3,zlT,zAM];generalize s[i]=c;unfold zCI;cases decide (97<=zaB c)<;>cases decide (zaB c<=122)<;>cases hc:(zaB c==95)<;>cases decide (0<i)<;>cases decide (48<=zaB c)<;>cases decide (zaB c<=57)<;>simp only[bne,hc]<;>rfl
 ·simp only[List.length_map,zan,zae]
def zsi(s:List UInt8):Bool:=s==[105,110,116] ||s==[116,101,120,116] ||s==[98,111,111,108]
theorem zsj(s:List UInt8):zct s=some (zsi s):=by rw[zhA];unfold zgT;unfold zsi;cases(s==[105,110,116])<;>cases(s==[116,101,120,116])<;>rfl
theorem ztL(f:Field):zbI f=some (zsi f.of):=by rw[zfK];unfold zcQ;unfold zsi;cases(f.of==[105,110,116])<;>cases(f.of==[116,101,120,116])<;>rfl
theorem zBC{xs:List (List UInt8)}{s:List UInt8}(hl:xs.length<=4611686018427387904):zaL (xs,s)=some (ixM (fun x=>s==x) xs):=by rw[zbt];unfold zaI;dsimp only;exact ixf (g:=fun x=>some (s==x)) (fun x=>s==x) hl (fun _ _=>rfl)
theorem zoK{xs:List (List UInt8)}{s:List UInt8}(hl:xs.length<=4611686018427387904):zas (xs,s)=some (xs.any fun x=>s==x):=by rw[za1];unfold zaz;dsimp only;rw[zBC hl,zac,zkm]
def kwL:List (List UInt8):=[[105,110,116],[116,101,120,116],[98,111,111,108],[112,97,114,116],[116,121,112,101],[107,101,121],[102,97,114],[104,105,100,100,101,110],[115,104,97,114,101,100],[110,101,101,100,115]]
def zzf:List UInt8->Bool
|[]=>false
|c:: _=>zaB c !=95
def nameM(s:List UInt8):Bool:=zt8 s&&(decide (s.length<=8)&&(zzf s&&!kwL.any fun x=>s==x))
theorem zDl(n:Nat):decide ((n:Int)<=8)=decide (n<=8):=by simp;omega
theorem zea{s:List UInt8}(hl:s.length<=4611686018427387904):zfl s=some (nameM s):=by
 rw[zoz];unfold zn7;rw[zvr hl,zac,zDl];unfold nameM;cases s with
 |nil=>rfl
 |cons c s=>
  cases zt8 (c:: s)with
  |false=>rfl
  |true=>
   simp only[zaf,Int.toNat_zero,List.getElem?_cons_zero,zac,zsj,zzf,zsi];simp only[kwL,List.any_cons,List.any_nil,bne];cases decide ((c:: s).length<=8)<;>cases(zaB c==95)<;>cases(c:: s==[105,110,116])<;>cases(c:: s==[116,101,120,116])<;>cases(c:: s==[98,111,111,108])<;>try rfl
   cases(c:: s==[112,97,114,116])<;>cases(c:: s==[116,121,112,101])<;>cases(c:: s==[107,101,121])<;>cases(c:: s==[102,97,114])<;>cases(c:: s==[104,105,100,100,101,110])<;>cases(c:: s==[115,104,97,114,101,100])<;>cases(c:: s==[110,101,101,100,115])<;>rfl
theorem zd3{s:List UInt8}(hl:s.length<=4611686018427387904):zcs s=some (nameM s):=by
 rw[zlj];unfold zjs;rw[zuX hl,zac,zDl];unfold nameM;cases s with
 |nil=>rfl
 |cons c s=>
  cases zt8 (c:: s)with
  |false=>rfl
  |true=>have hc:=zoK (xs:=kwL) (s:=c:: s) (by simp[kwL]);simp only[kwL]at hc;simp only[zaf,Int.toNat_zero,List.getElem?_cons_zero,zac,zzf,kwL,hc];cases decide ((c:: s).length<=8)<;>cases(zaB c !=95)<;>rfl
theorem zdI{s:List UInt8}(h:nameM s=true):s.length<=8:=by unfold nameM at h;simp only[yhb,yhc]at h;exact h.2.1
def tyM(p:Part)(n:List UInt8):Option Typ:=p.types.find? fun t=>t.name==n
def fdM(t:Typ)(n:List UInt8):Option Field:=t.fields.find? fun f=>f.name==n
def zeK(p:Part)(n f:List UInt8):Option Field:=(tyM p n).bind fun t=>fdM t f
def ty0:Typ:=⟨[],[],[]⟩
def fd0:Field:=⟨[],[],false,false,false,false,false,[]⟩
theorem zdj{p:Part}{n:List UInt8}(hl:p.types.length<=4611686018427387904):zbX (p,n)=some (ixM (fun t=>t.name==n) p.types):=by rw[zkr];unfold zk9;dsimp only;exact ixf (g:=fun t:Typ=>some (t.name==n)) (fun t=>t.name==n) hl (fun _ _=>rfl)
theorem zeI{t:Typ}{n:List UInt8}(hl:t.fields.length<=4611686018427387904):zb4 (t,n)=some (ixM (fun f=>f.name==n) t.fields):=by rw[ziK];unfold ziA;dsimp only;exact ixf (g:=fun f:Field=>some (f.name==n)) (fun f=>f.name==n) hl (fun _ _=>rfl)
theorem zBx(t:Typ)(n:List UInt8):zb2 (t,n)=some (t.name==n):=by rw[zgm];unfold zdt;dsimp only
theorem ztj(t:Field)(n:List UInt8):zbq (t,n)=some (t.name==n):=by rw[zgo];unfold zdv;dsimp only
theorem zrA{p:Part}{n:List UInt8}(hl:p.types.length<=4611686018427387904):zbb (p,n)=some ((tyM p n).getD ty0,(tyM p n).isSome):=by
 rw[zia];unfold zfa;dsimp only;have h:zc3 (p.types,n)=some (ixM (fun t=>t.name==n) p.types):=by rw[zfR];unfold zcV;dsimp only;exact ixf (g:=fun t:Typ=>zb2 (t,n)) (fun t=>t.name==n) hl (fun t _=>zBx t n)
 rw[h,zac];unfold tyM;rcases zaT (fun t:Typ=>t.name==n) p.types with⟨h1,h2,_⟩|⟨i,hi,h1,h2,_,_⟩
 ·rw[h1,h2];rfl
 ·have h3:decide ((i:Int)<0)=false:=by simp
  rw[h1,h2,h3,zax,zai hi];rfl
theorem zoj{t:Typ}{n:List UInt8}(hl:t.fields.length<=4611686018427387904):zbe (t,n)=some ((fdM t n).getD fd0,(fdM t n).isSome):=by
 rw[zib];unfold zfb;dsimp only;have h:za3 (t.fields,n)=some (ixM (fun t=>t.name==n) t.fields):=by rw[zda];unfold zbH;dsimp only;exact ixf (g:=fun t:Field=>zbq (t,n)) (fun t=>t.name==n) hl (fun t _=>ztj t n)
 rw[h,zac];unfold fdM;rcases zaT (fun t:Field=>t.name==n) t.fields with⟨h1,h2,_⟩|⟨i,hi,h1,h2,_,_⟩
 ·rw[h1,h2];rfl
 ·have h3:decide ((i:Int)<0)=false:=by simp
  rw[h1,h2,h3,zax,zai hi];rfl
end Go.Fw
namespace Go.Fw
open Go
set_option linter.unusedSimpArgs false
set_option linter.unusedVariables false
theorem zqY:∀(x y:List UInt8),(Op.bytesLess x y ||x==y)= !Op.bytesLess y x
|[],[]=>rfl
|[],_:: _=>rfl
|_:: _,[]=>rfl
|a:: x,b:: y=>by
 have ih:=zqY x y;unfold Op.bytesLess;by_cases h1:a<b
 ·have h2:¬b<a:=fun h=>by have:=UInt8.lt_asymm h1;exact this h
  have h3:¬b=a:=fun h=>by subst h;exact UInt8.lt_irrefl _ h1
  simp[h1,h2,h3]
 ·by_cases h2:b<a
  ·have h3:¬a=b:=fun h=>by subst h;exact UInt8.lt_irrefl _ h2
   simp[h1,h2,h3]
  ·have h3:a=b:=by apply UInt8.toNat_inj.1;rw[UInt8.lt_iff_toNat_lt]at h1 h2;omega
   subst h3;simpa[UInt8.lt_irrefl]using ih
def zl7(f:Field):Bool:=f.of==[105,110,116]&&(!f.list&&!decide (0<f.needs.length))
def zD1(t:Typ):Bool:=t.key==[] ||match fdM t t.key with
|none=>false
|some f=>zl7 f&&(f.must&&(!f.far&&!f.hidden))
theorem zl1{α:Type}(l:List α):decide ((l.length:Int)>0)=decide (0<l.length):=by simp
theorem zD6{α:Type}(l:List α):((l.length:Int)==0)= !decide (0<l.length):=zDp _
theorem zor(f:Field):zaX f=some (decide (0<f.needs.length)):=by rw[zgl];unfold zds;rw[zl1]
theorem zwT(f:Field):zba f=some (zl7 f):=by rw[zex];unfold zbS;rw[zor];unfold zl7;cases(f.of==[105,110,116])<;>cases f.list<;>rfl
theorem zxT{t:Typ}(hl:t.fields.length<=4611686018427387904):zrk t=some (zD1 t):=by
 rw[zqx];unfold zrf;unfold zD1;cases hk:(t.key==[])with
 |true=>rfl
 |false=>
  rw[zae,zeI hl,zac];unfold fdM;rcases zaT (fun f:Field=>f.name==t.key) t.fields with⟨h1,h2,_⟩|⟨i,hi,h1,h2,_,_⟩
  ·rw[h1,h2];rfl
  ·have h3:decide ((i:Int)<0)=false:=by simp
   rw[h1,h2,h3,zax,zai hi];simp only[zae,zag,zac,zl7,zD6];generalize t.fields[i]=f;cases(f.of==[105,110,116])<;>cases f.list<;>cases f.must<;>cases f.far<;>cases f.hidden<;>cases decide (0<f.needs.length)<;>rfl
theorem zyy{t:Typ}(hl:t.fields.length<=4611686018427387904):zdz t=some (!zD1 t):=by
 rw[zgn];unfold zdu;unfold zD1;cases hk:(t.key==[])with
 |true=>rfl
 |false=>
  rw[zae,zoj hl,zac];cases fdM t t.key with
  |none=>rfl
  |some f=>simp only[Option.getD_some,Option.isSome_some,Bool.not_true,zae,zwT,zac];cases zl7 f<;>cases f.must<;>cases f.far<;>cases f.hidden<;>rfl
def zu5(t:Typ)(f:Field)(i:Nat)(n:List UInt8):Bool:=match fdM t n with
|none=>false
|some g=>zl7 g&&(i==0 ||match f.needs[i-1]? with
 |some m=>Op.bytesLess m n
 |none=>true)
def zxG(t:Typ)(f:Field):Bool:=(!decide (0<f.needs.length) ||(f.of==[105,110,116]&&(!f.list&&(!f.far&&(!f.must&&(!(t.key==[])&&!(f.name==t.key)))))))&&zqD (zu5 t f) 0 f.needs
def zkp(t:Typ)(f:Field):Bool:=zxG t f&&!(f.far&&f.shared)
theorem zv0(i:Nat):decide ((i:Int)>0)= !(i==0):=by cases i<;>simp
theorem ztY{t:Typ}{f:Field}(hl:t.fields.length<=4611686018427387904)(hf:f.needs.length<=4611686018427387904):zlu (t,f)=some (zxG t f):=by
 rw[znd];unfold zk8;dsimp only;unfold zxG;have h0:(zab (decide ((↑(List.length f.needs):Int)>0))
  (zab (f.of !=[105,110,116]) (some true)
   (zab f.list (some true) (zab f.far (some true) (zab f.must (some true) (zab (t.key==[]) (some true) (some (f.name==t.key)))))))
  (some false))=some (!(!decide (0<f.needs.length) ||(f.of==[105,110,116]&&(!f.list&&(!f.far&&(!f.must&&(!(t.key==[])&&!(f.name==t.key)))))))):=by
  rw[zl1];simp only[bne];cases decide (0<f.needs.length)<;>cases(f.of==[105,110,116])<;>cases f.list<;>cases f.far<;>cases f.must<;>cases(t.key==[])<;>cases(f.name==t.key)<;>rfl
 rw[h0,zac];cases(!decide (0<f.needs.length) ||(f.of==[105,110,116]&&(!f.list&&(!f.far&&(!f.must&&(!(t.key==[])&&!(f.name==t.key)))))))with
 |false=>rfl
 |true=>
  simp only[Bool.not_true,zae,Bool.true_and];rw[zcj (s0:=(0:Int)) f.needs (fun i=>(i:Int)) (f.needs.length:Int) (fun i c=>bif zu5 t f i c then none else some false) rfl ?_ ?_]
  ·rw[zce];cases zqD (zu5 t f) 0 f.needs<;>rfl
  ·intro i h;have h3:=zam h hf;simp only[zaD h,zax,zai h,zaf,zag,zac,zeI hl,h3];unfold zu5 fdM;rcases zaT (fun g:Field=>g.name==f.needs[i]) t.fields with⟨h1,h2,_⟩|⟨k,hk,h1,h2,_,_⟩
   ·rw[h1,h2];rfl
   ·have h4:decide ((k:Int)<0)=false:=by simp
    rw[h1,h2,h4];simp only[zax,zai hk,zae,zag,zac,zl1,zl7,zv0 i];generalize t.fields[k]=g;cases i with
    |zero=>simp only[bne];cases decide (0<g.needs.length)<;>cases(g.of==[105,110,116])<;>cases g.list<;>rfl
    |succ i=>
     have h5:(((i+1:Nat):Int)-1)=(i:Int):=by omega
     have h6:zay (i:Int)=true:=zd2 (by omega) (by omega);have h7:i<f.needs.length:=by omega
     simp only[h5,h6,zax,zai h7,zag,zac,Nat.add_sub_cancel,ygb h7,bne];cases decide (0<g.needs.length)<;>cases(g.of==[105,110,116])<;>cases g.list<;>cases Op.bytesLess f.needs[i] f.needs[i+1]<;>rfl
  ·simp only[zan,zae]
theorem zw8{t:Typ}{f:Field}(hl:t.fields.length<=4611686018427387904)(hf:f.needs.length<=4611686018427387904):zbJ (t,f)=some (!zkp t f):=by
 rw[zfM];unfold zcS;dsimp only;unfold zkp zxG;cases hfs:(f.far&&f.shared)with
 |true=>simp only[yhb]at hfs;simp only[hfs.1,hfs.2,zaf,zac,Bool.not_true,Bool.and_false,Bool.not_false]
 |false=>
  have h0:zab f.far (some f.shared) (some false)=some false:=by
   cases hf1:f.far with
   |false=>rfl
   |true=>cases hf2:f.shared with
    |false=>rfl
    |true=>simp[hf1,hf2]at hfs
  rw[h0,zac,zae,zor,zac];cases hn:f.needs with
  |nil=>rfl
  |cons n0 ns=>
   rw[<-hn];have hpos:decide (0<f.needs.length)=true:=by simp[hn]
   rw[hpos];have h1:(zab (f.of !=[105,110,116]) (some true)
    (zab f.list (some true) (zab f.far (some true) (zab f.must (some true) (zab (f.name==t.key) (some true) (some (t.key==[])))))))=some (!(f.of==[105,110,116]&&(!f.list&&(!f.far&&(!f.must&&(!(t.key==[])&&!(f.name==t.key))))))):=by
    simp only[bne];cases(f.of==[105,110,116])<;>cases f.list<;>cases f.far<;>cases f.must<;>cases(t.key==[])<;>cases(f.name==t.key)<;>rfl
   rw[h1,zac];simp only[Bool.not_true,zae,Bool.false_or];cases(f.of==[105,110,116]&&(!f.list&&(!f.far&&(!f.must&&(!(t.key==[])&&!(f.name==t.key))))))with
   |false=>rfl
   |true=>
    simp only[Bool.not_true,zae,Bool.true_and];rw[zcj (s0:=(0:Int)) f.needs (fun i=>(i:Int)) (f.needs.length:Int) (fun i c=>bif zu5 t f i c then none else some true) rfl ?_ ?_]
    ·rw[zce];cases zqD (zu5 t f) 0 f.needs<;>rfl
    ·intro i h;have h3:=zam h hf;simp only[zaD h,zax,zai h,zaf,zag,zac,zoj hl,h3];unfold zu5;cases fdM t f.needs[i]with
     |none=>rfl
     |some g=>
      simp only[Option.getD_some,Option.isSome_some,Bool.not_true,zae,zwT,zac,zv0 i];cases i with
      |zero=>cases zl7 g<;>rfl
      |succ i=>
       have h5:(((i+1:Nat):Int)-1)=(i:Int):=by omega
       have h6:zay (i:Int)=true:=zd2 (by omega) (by omega);have h7:i<f.needs.length:=by omega
       simp only[h5,h6,zax,zai h7,zag,zac,Nat.add_sub_cancel,ygb h7,zqY];cases zl7 g<;>cases Op.bytesLess f.needs[i] f.needs[i+1]<;>rfl
    ·simp only[zan,zae]
end Go.Fw
namespace Go.Fw
open Go
set_option linter.unusedSimpArgs false
set_option linter.unusedVariables false
def zpr(f:Field):Bool:=nameM f.name&&((zsi f.of ||nameM f.of)&&f.needs.all nameM)
def lineM(t:Typ):Bool:=nameM t.name&&((t.key==[] ||nameM t.key)&&(decide (0<t.fields.length)&&(decide (t.fields.length<=8)&&t.fields.all zpr)))
def zsv(t:Typ):Bool:=zqD (fun i f=>ixM (fun g:Field=>g.name==f.name) t.fields==(i:Int)) 0 t.fields
def knownM(p:Part)(f:Field):Bool:=zsi f.of ||(tyM p f.of).isSome
def zbN(p:Part)(i:Nat)(t:Typ):Int:=
 bif !lineM t then 1 else bif !(ixM (fun u:Typ=>u.name==t.name) p.types==(i:Int))then 2 else bif !zsv t then 2 else bif !t.fields.all (knownM p)then 3 else bif !zD1 t then 4 else bif !t.fields.all (zkp t)then 5 else 0
theorem zDo(n:Nat):decide ((n:Int)>8)= !decide (n<=8):=by
 by_cases h:n<=8
 ·simp[h];omega
 ·simp[h];omega
theorem zBc(n:Nat):decide ((n:Int)<=8)=decide (n<=8):=zDl n
theorem zCG(n:Nat):decide ((1:Int)<=(n:Int))=decide (0<n):=by simp;omega
theorem zuo{s:List UInt8}(h:s.length<=KK):zbc s=some (!nameM s):=by rw[zez];unfold zbU;rw[zd3 (up h)];rfl
theorem zup{f:Field}(h:KF KK f):zbd f=some (!zpr f):=by
 rw[zeA];unfold zbV;have h1:zaY f.needs=some (!f.needs.all nameM):=by
  rw[zdM];unfold zby;have h2:zbD f.needs=some (ixM (fun s=>!nameM s) f.needs):=by rw[zdO];unfold zbA;exact ixf (g:=zbc) _ (up h.2.2.1) (fun s hs=>zuo (h.2.2.2 s hs))
  rw[h2,zac,zkm,List.not_all_eq_any_not]
 rw[zd3 (up h.1),h1,zd3 (up h.2.1),ztL];unfold zpr;cases nameM f.name<;>cases nameM f.of<;>cases zsi f.of<;>cases f.needs.all nameM<;>rfl
theorem zw7{t:Typ}(h:KT KK t):zc1 t=some (!lineM t):=by
 rw[zfL];unfold zcR;have h1:zaZ t.fields=some (!t.fields.all zpr):=by
  rw[zdN];unfold zbz;have h2:zbE t.fields=some (ixM (fun s=>!zpr s) t.fields):=by rw[zdP];unfold zbB;exact ixf (g:=zbd) _ (up h.2.2.1) (fun s hs=>zup (h.2.2.2 s hs))
  rw[h2,zac,zkm,List.not_all_eq_any_not]
 rw[zd3 (up h.1),zd3 (up h.2.1),h1,zlT,zCG,zBc];unfold lineM;simp only[bne];cases nameM t.name<;>cases(t.key==[])<;>cases nameM t.key<;>cases decide (0<t.fields.length)<;>cases decide (t.fields.length<=8)<;>cases t.fields.all zpr<;>rfl
theorem zBU{t:Typ}(h:KT KK t):zen t=some (t.fields.map (·.name)):=by
 rw[zgZ];unfold zeh;have hL:LIM=1099511627776:=rfl;have hk:KK=1048576:=rfl;have hl:=h.2.2.1;rw[zdk (s0:=((0:Int),([]:List (List UInt8)))) t.fields.length (fun i=>((i:Int),(t.fields.take i).map (·.name))) ((t.fields.length:Int),t.fields.map (·.name)) rfl ?_ ?_]
 ·intro i hi;have h3:=zam hi (up hl);have h4:decide (List.length ((t.fields.take i).map (·.name))+List.length [t.fields[i].name]<=LIM)=true:=by simp;omega
  simp only[zaD hi,zax,zai hi,zaf,zag,zac,h3,h4];rw[List.take_succ_eq_append_getElem hi,List.map_append];rfl
 ·simp only[zan,zae,List.take_length]
theorem zCo{l:List (List UInt8)}(hl:l.length<=KK):zln l=some (!zqD (fun i s=>!(l.take i).any fun x=>s==x) 0 l):=by
 rw[zm7];unfold zk2;rw[zcj (s0:=(0:Int)) l (fun i=>(i:Int)) (l.length:Int) (fun i s=>bif (!(l.take i).any fun x=>s==x)then none else some true) rfl ?_ ?_]
 ·rw[zce];cases zqD (fun i s=>!(l.take i).any fun x=>s==x) 0 l<;>rfl
 ·intro i h;have h3:=zam h (up hl);have h4:decide ((i:Int)<=(l.length:Int))=true:=by simp;omega
  have h5:(List.take (Int.toNat (i:Int)-Int.toNat 0) (List.drop (Int.toNat 0) l))=l.take i:=by simp
  simp only[zaD h,zax,zai h,zaf,zag,zac,h3,h4,h5,decide_true,Bool.and_self,Int.le_refl];rw[zoK (by rw[List.length_take];exact Nat.le_trans (Nat.min_le_right _ _) (up hl)),zac];cases(l.take i).any fun x=>l[i]==x<;>rfl
 ·simp only[zan,zae]
theorem zvw{t:Typ}:zqD (fun i s=>!((t.fields.map (·.name)).take i).any fun x=>s==x) 0 (t.fields.map (·.name))=zsv t:=by
 unfold zsv;rw[Bool.eq_iff_iff,zhE,zhE];have hx:∀(j:Nat)(hj:j<t.fields.length),((t.fields.map (·.name)).take j).any (fun x=>t.fields[j].name==x)=(t.fields.take j).any fun g=>g.name==t.fields[j].name:=by intro j hj;rw[<-List.map_take,List.any_map];congr 1;funext g;exact BEq.comm
 constructor
 ·intro h j hj;have:=h j (by simpa using hj);rw[List.getElem_map,Nat.zero_add,hx j hj]at this;rw[Nat.zero_add,zzh hj (by simp)];exact this
 ·intro h j hj;have hj':j<t.fields.length:=by simpa using hj
  have:=h j hj';rw[Nat.zero_add,zzh hj' (by simp)]at this;rw[List.getElem_map,Nat.zero_add,hx j hj'];exact this
theorem zw3(p:Part)(n:List UInt8):(tyM p n).isSome=p.types.any fun t=>t.name==n:=by
 unfold tyM;rcases zaT (fun t:Typ=>t.name==n) p.types with⟨_,h2,h3⟩|⟨i,hi,_,h2,_,h3⟩
 ·rw[h2,h3];rfl
 ·rw[h2,h3];rfl
def isQ(f:Field):Bool:=f.of==[113,117,101,114,121]
theorem zt1{p:Part}{i:Nat}(hp:KP KK p)(hi:i<p.types.length):zbW (p,(i:Int))=some (bif !(zbN p i p.types[i]==0)then zbN p i p.types[i]else bif p.types[i].fields.any isQ then 7 else 0):=by
 rw[zey];unfold zbT;dsimp only;have ht:=hp.2.2 _ (ygh hi);have hT:=up ht.2.2.1;have h4:decide ((i:Int)<=(p.types.length:Int))=true:=by simp;omega
 have h5:(List.take (Int.toNat (i:Int)-Int.toNat 0) (List.drop (Int.toNat 0) p.types))=p.types.take i:=by simp
 simp only[zax,zai hi,zag,zac,h4,h5,decide_true,Bool.and_self,Int.le_refl];have h6:zbb (⟨[],p.types.take i⟩,p.types[i].name)=some ((tyM ⟨[],p.types.take i⟩ p.types[i].name).getD ty0,!(ixM (fun u:Typ=>u.name==p.types[i].name) p.types==(i:Int))):=by rw[zrA (by show(p.types.take i).length<=_;rw[List.length_take];exact Nat.le_trans (Nat.min_le_right _ _) (up hp.2.1)),zw3,zzh hi (by simp),Bool.not_not]
 have k1:zbf (p.types[i].fields,p)=some (!p.types[i].fields.all (knownM p)):=by
  rw[zdl];unfold za5;dsimp only;have h2:zbh (p.types[i].fields,p)=some (ixM (fun f=>!knownM p f) p.types[i].fields):=by rw[zdn];unfold za7;dsimp only;refine ixf (g:=fun f=>zbo (f,p)) _ hT (fun f hf=>?_);rw[zdx];unfold zbm;dsimp only;rw[zrA (up hp.2.1),ztL];unfold knownM;cases zsi f.of<;>cases(tyM p f.of).isSome<;>rfl
  rw[h2,zac,zkm,List.not_all_eq_any_not]
 have k2:zcu (p.types[i].fields,p.types[i])=some (!p.types[i].fields.all (zkp p.types[i])):=by
  rw[zeZ];unfold zcl;dsimp only;have h2:zcx (p.types[i].fields,p.types[i])=some (ixM (fun f=>!zkp p.types[i] f) p.types[i].fields):=by rw[ze2];unfold zco;dsimp only;exact ixf (g:=fun f=>zbJ (p.types[i],f)) _ hT (fun f hf=>zw8 hT (up (ht.2.2.2 f hf).2.2.1))
  rw[h2,zac,zkm,List.not_all_eq_any_not]
 have k3:zbg p.types[i].fields=some (p.types[i].fields.any isQ):=by
  rw[zdm];unfold za6;have h2:zbi p.types[i].fields=some (ixM isQ p.types[i].fields):=by rw[zdo];unfold za8;refine ixf (g:=zbp) _ hT (fun f hf=>?_);rw[zdy];unfold zbn;rfl
  rw[h2,zac,zkm]
 rw[h6];simp only[zac,zw7 ht,zBU ht,zCo (show(p.types[i].fields.map (·.name)).length<=KK by rw[List.length_map];exact ht.2.2.1),zvw,k1,k2,k3,zyy hT];unfold zbN;cases lineM p.types[i]<;>cases(ixM (fun u:Typ=>u.name==p.types[i].name) p.types==(i:Int))<;>cases zsv p.types[i]<;>cases p.types[i].fields.all (knownM p)<;>cases zD1 p.types[i]<;>cases p.types[i].fields.all (zkp p.types[i])<;>cases p.types[i].fields.any isQ<;>rfl
end Go.Fw
namespace Go.Fw
open Go
set_option linter.unusedSimpArgs false
set_option linter.unusedVariables false
def ndM(l:List (List UInt8)):List UInt8:=l.flatMap fun n=>32:: n
def flM(f:Field):Nat->List UInt8
|0=>[]
|1=>bif f.far then[32,102,97,114]else[]
|2=>(bif f.far then[32,102,97,114]else[])++(bif f.hidden then[32,104,105,100,100,101,110]else[])
|_=>(bif f.far then[32,102,97,114]else[])++(bif f.hidden then[32,104,105,100,100,101,110]else[])++(bif f.shared then[32,115,104,97,114,101,100]else[])
def ofM(f:Field):List UInt8:=(bif f.list then[91]++f.of++[93]else f.of)++(bif f.must then[33]else[])
def hdM(f:Field):List UInt8:=[32,32]++f.name++[32]++ofM f
def nsM(f:Field):List UInt8:=bif decide (0<f.needs.length)then[32,110,101,101,100,115]++ndM f.needs else[]
def lnM(f:Field):List UInt8:=hdM f++flM f 3++nsM f++[10]
theorem zpz{l:List (List UInt8)}(h:∀s∈l,s.length<=8):(ndM l).length<=9*l.length:=by
 induction l with
 |nil=>simp[ndM]
 |cons x l ih=>have h1:=h x (by simp);have h2:=ih fun s hs=>h s (by simp[hs]);unfold ndM at h2|-;simp only[List.flatMap_cons,yhr,yhs];omega
theorem ziV(f:Field)(i:Nat):(flM f i).length<=18:=by unfold flM;split<;>cases f.far<;>cases f.hidden<;>cases f.shared<;>simp
theorem zu9{f:Field}(h:f.of.length<=8):(ofM f).length<=11:=by unfold ofM;cases f.list<;>cases f.must<;>simp<;>omega
theorem zuU{f:Field}(h:f.of.length<=8)(h2:f.name.length<=8):(hdM f).length<=22:=by have:=zu9 h;unfold hdM;simp only[yhr,yhs,yht];omega
theorem zCd{s:List UInt8}(h:zsi s=true):s.length<=4:=by unfold zsi at h;simp only[Bool.or_eq_true,yhe]at h;rcases h with(h|h)|h<;>subst h<;>simp
structure Ln (f:Field):Prop where
 name:f.name.length<=8
 of:f.of.length<=8
 need:∀s∈f.needs,s.length<=8
 needs:f.needs.length<=1048576
theorem Ln.mk'{f:Field}(h:KF KK f)(hl:zpr f=true):Ln f:=by
 unfold zpr at hl;simp only[yhb,Bool.or_eq_true,List.all_eq_true]at hl;refine⟨zdI hl.1,?_,fun s hs=>zdI (hl.2.2 s hs),h.2.2.1⟩;rcases hl.2.1 with h1|h1
 ·exact Nat.le_trans (zCd h1) (by decide)
 ·exact zdI h1
theorem zu3{f:Field}(h:Ln f):(lnM f).length<=9500000:=by have h1:=zuU h.of h.name;have h2:=ziV f 3;have h3:=zpz h.need;have h4:=h.needs;unfold lnM nsM;cases decide (0<f.needs.length)<;>simp only[cond_true,cond_false,yhr,yhs,yht]<;>omega
theorem big{n:Nat}(h:n<=9000000000):decide (n<=BIG)=true:=by have:BIG=9223372036854775807:=rfl;simp;omega
theorem zEW{l:List (List UInt8)}{i:Nat}(h:i<l.length):ndM (l.take (i+1))=ndM (l.take i)++[32]++l[i]:=by unfold ndM;rw[List.take_succ_eq_append_getElem h,List.flatMap_append];simp
theorem zxF{l:List (List UInt8)}(h:∀s∈l,s.length<=8)(h2:l.length<=1048576)(i:Nat):(ndM (l.take i)).length<=9437184:=by
 have:=zpz (l:=l.take i) fun s hs=>h s (List.mem_of_mem_take hs);have h3:(l.take i).length<=l.length:=by rw[List.length_take];exact Nat.min_le_right _ _
 omega
theorem zvp{f:Field}(h:Ln f):zod f=some (lnM f):=by
 rw[zoy];unfold zn6;show _=some (hdM f++flM f 3++nsM f++[10]);obtain⟨hn,ho,hs,hl⟩:=h;have k1:(zab f.list (gd (decide (List.length [91]+List.length f.of<=BIG)) (gd (decide (List.length ([91]++f.of)+List.length [93]<=BIG)) (some ([91]++f.of++[93])))) (some f.of))=some (bif f.list then[91]++f.of++[93]else f.of):=by rw[big (n:=List.length [91]+List.length f.of) (by simp;omega),big (n:=List.length ([91]++f.of)+List.length [93]) (by simp;omega)];cases f.list<;>rfl
 have l1:(bif f.list then[91]++f.of++[93]else f.of).length<=10:=by cases f.list<;>simp<;>omega
 rw[k1,zac];have k2:(zab f.must (gd (decide (List.length (bif f.list then[91]++f.of++[93]else f.of)+List.length [33]<=BIG)) (some ((bif f.list then[91]++f.of++[93]else f.of)++[33]))) (some (bif f.list then[91]++f.of++[93]else f.of)))=some (ofM f):=by rw[big (n:=List.length (bif f.list then[91]++f.of++[93]else f.of)+List.length [33]) (by simp only[yhs,yht];omega)];unfold ofM;cases f.must<;>simp[zab,gd]
 rw[k2,zac];have l2:=zu9 ho;rw[big (n:=List.length [32,32]+List.length f.name) (by simp;omega),big (n:=List.length ([32,32]++f.name)+List.length [32]) (by simp;omega),big (n:=List.length ([32,32]++f.name++[32])+List.length (ofM f)) (by simp only[yhr,yhs,yht];omega)];simp only[zag];have e1:[32,32]++f.name++[32]++ofM f=hdM f:=rfl;rw[e1];have l3:=zuU ho hn;generalize hdM f=x at *;have k3:(zab f.far (gd (decide (List.length x+List.length [32,102,97,114]<=BIG)) (some (x++[32,102,97,114]))) (some x))=some (x++flM f 1):=by rw[big (n:=List.length x+List.length [32,102,97,114]) (by simp only[yhs,yht];omega)];unfold flM;cases f.far<;>simp[zab,gd]
 rw[k3,zac];have l4:=ziV f 1;have k4:(zab f.hidden (gd (decide (List.length (x++flM f 1)+List.length [32,104,105,100,100,101,110]<=BIG)) (some (x++flM f 1++[32,104,105,100,100,101,110]))) (some (x++flM f 1)))=some (x++flM f 2):=by rw[big (n:=List.length (x++flM f 1)+List.length [32,104,105,100,100,101,110]) (by simp only[yhr,yhs,yht];omega)];unfold flM;cases f.hidden<;>simp[zab,gd]
 rw[k4,zac];have l5:=ziV f 2;have k5:(zab f.shared (gd (decide (List.length (x++flM f 2)+List.length [32,115,104,97,114,101,100]<=BIG)) (some (x++flM f 2++[32,115,104,97,114,101,100]))) (some (x++flM f 2)))=some (x++flM f 3):=by rw[big (n:=List.length (x++flM f 2)+List.length [32,115,104,97,114,101,100]) (by simp only[yhr,yhs,yht];omega)];unfold flM;cases f.shared<;>simp[zab,gd]
 rw[k5,zac];have l6:=ziV f 3;have l7:(x++flM f 3).length<=40:=by rw[yhr];omega
 generalize hy:x++flM f 3=y at *;have k6:(zab (decide ((↑(List.length f.needs):Int)>0)) (gd (decide (List.length y+List.length [32,110,101,101,100,115]<=BIG)) (some (y++[32,110,101,101,100,115]))) (some y))=some (y++bif decide (0<f.needs.length)then[32,110,101,101,100,115]else[]):=by rw[big (n:=List.length y+List.length [32,110,101,101,100,115]) (by simp only[yhs,yht];omega),zl1];cases decide (0<f.needs.length)<;>simp[zab,gd]
 rw[k6,zac];have l8:(y++bif decide (0<f.needs.length)then[32,110,101,101,100,115]else[]).length<=50:=by cases decide (0<f.needs.length)<;>simp<;>omega
 have e2:y++nsM f++[10]=(y++bif decide (0<f.needs.length)then[32,110,101,101,100,115]else[])++ndM f.needs++[10]:=by
  unfold nsM;cases hd:decide (0<f.needs.length)with
  |true=>simp
  |false=>
   have:f.needs=[]:=by
    cases hf:f.needs with
    |nil=>rfl
    |cons a b=>rw[hf]at hd;simp at hd
   simp[this,ndM]
 rw[e2];generalize(y++bif decide (0<f.needs.length)then[32,110,101,101,100,115]else[])=z at *;have l9:=fun i=>zxF hs hl i;rw[zdk (s0:=(z,(0:Int))) f.needs.length (fun i=>(z++ndM (f.needs.take i),(i:Int))) (z++ndM f.needs,(f.needs.length:Int)) (by simp[ndM]) ?_ ?_]
 ·dsimp only;have l10:=zpz hs;rw[big (n:=(z++ndM f.needs).length+List.length [10]) (by simp only[yhr,yhs,yht];omega)];rfl
 ·intro i hi;have l11:=l9 i;have l12:=hs _ (ygh hi);have h3:=zam hi (up hl);have g1:=big (n:=List.length (z++ndM (f.needs.take i))+List.length [32]) (by simp only[yhr,yhs,yht];omega);have g2:=big (n:=List.length (z++ndM (f.needs.take i)++[32])+List.length f.needs[i]) (by simp only[yhr,yhs,yht];omega);simp only[zaD hi,zax,zai hi,zaf,zag,zac,h3,g1,g2];rw[zEW hi];simp only[List.append_assoc];rfl
 ·simp only[zan,zae,List.take_length]
theorem zDU{l:List (List UInt8)}(h:decide (0<l.length)=true):32:: Lib.join l [32]=ndM l:=by
 cases l with
 |nil=>simp at h
 |cons x r=>rw[Lib.join_cons];unfold Lib.joinTail ndM;rw[List.flatMap_cons];simp[List.flatMap]
theorem zuW{f:Field}(h:Ln f):zel f=some (lnM f):=by
 rw[zgW];unfold zee;show _=some (hdM f++flM f 3++nsM f++[10]);obtain⟨hn,ho,hs,hl⟩:=h;have k1:(zab f.list (gd (decide (List.length [91]+List.length f.of<=BIG)) (gd (decide (List.length ([91]++f.of)+List.length [93]<=BIG)) (some ([91]++f.of++[93])))) (some f.of))=some (bif f.list then[91]++f.of++[93]else f.of):=by rw[big (n:=List.length [91]+List.length f.of) (by simp;omega),big (n:=List.length ([91]++f.of)+List.length [93]) (by simp;omega)];cases f.list<;>rfl
 have l1:(bif f.list then[91]++f.of++[93]else f.of).length<=10:=by cases f.list<;>simp<;>omega
 rw[k1,zac];have k2:(zab f.must (gd (decide (List.length (bif f.list then[91]++f.of++[93]else f.of)+List.length [33]<=BIG)) (some ((bif f.list then[91]++f.of++[93]else f.of)++[33]))) (some (bif f.list then[91]++f.of++[93]else f.of)))=some (ofM f):=by rw[big (n:=List.length (bif f.list then[91]++f.of++[93]else f.of)+List.length [33]) (by simp only[yhs,yht];omega)];unfold ofM;cases f.must<;>simp[zab,gd]
 rw[k2,zac];have l2:=zu9 ho;rw[big (n:=List.length [32,32]+List.length f.name) (by simp;omega),big (n:=List.length ([32,32]++f.name)+List.length [32]) (by simp;omega),big (n:=List.length ([32,32]++f.name++[32])+List.length (ofM f)) (by simp only[yhr,yhs,yht];omega)];simp only[zag];have e1:[32,32]++f.name++[32]++ofM f=hdM f:=rfl;rw[e1];have l3:=zuU ho hn;generalize hdM f=x at *;rw[zdk (s0:=(x,(0:Int))) 3 (fun i=>(x++flM f i,(i:Int))) (x++flM f 3,(3:Int)) (by simp[flM]) ?_ ?_]
 ·dsimp only;have l6:=ziV f 3;have l7:(x++flM f 3).length<=40:=by rw[yhr];omega
  generalize x++flM f 3=y at *;rw[zor,zac];have l8:(nsM f).length<=9437200:=by have:=zpz hs;unfold nsM;cases decide (0<f.needs.length)<;>simp<;>omega
  have k3:(zab (decide (0<f.needs.length)) (zaa (zaN (f.needs,[32])) fun(x_2:List UInt8)=>
           gd (decide (List.length [32,110,101,101,100,115,32]+List.length x_2<=BIG))
            (gd (decide (List.length y+List.length ([32,110,101,101,100,115,32]++x_2)<=BIG))
             (some (y++([32,110,101,101,100,115,32]++x_2))))) (some y))=some (y++nsM f):=by
   cases hd:decide (0<f.needs.length)with
   |false=>simp[zab,nsM,hd]
   |true=>
    have hj:=zDU hd;have l9:=zpz hs;have l10:(Lib.join f.needs [32]).length+1=(ndM f.needs).length:=by rw[<-hj];simp
    have l11:decide (f.needs.length<=140737488355328)=true:=by simp;omega
    have l12:decide ((Lib.join f.needs [32]).length<=140737488355328)=true:=by simp;omega
    have hJ:zaN (f.needs,[32])=some (Lib.join f.needs [32]):=by rw[zdU];unfold zcK zzi;dsimp only;rw[l11,l12];rfl
    rw[hJ,zac,zaf,big (n:=List.length [32,110,101,101,100,115,32]+List.length (Lib.join f.needs [32])) (by simp only[yhs,yht];omega),big (n:=List.length y+List.length ([32,110,101,101,100,115,32]++Lib.join f.needs [32])) (by simp only[yhr,yhs,yht];omega)];simp only[zag,nsM,hd,cond_true];rw[<-hj];simp
  rw[k3,zac,big (n:=(y++nsM f).length+List.length [10]) (by simp only[yhr,yhs,yht];omega)];rfl
 ·intro i hi;have l4:=ziV f 0;have l5:=ziV f 1;have l6:=ziV f 2;rcases i with _|_|_|i
  ·have g:=big (n:=List.length (x++flM f 0)+List.length [32,102,97,114]) (by simp only[yhr,yhs,yht];omega);simp[flM]at g;simp only[Nat.zero_add,Nat.reduceAdd,flM];cases f.far<;>simp[zab,gd,zaa,zay,g]
  ·have g:=big (n:=List.length (x++flM f 1)+List.length [32,104,105,100,100,101,110]) (by simp only[yhr,yhs,yht];omega);simp[flM]at g;simp only[Nat.zero_add,Nat.reduceAdd,flM];cases f.hidden<;>simp[zab,gd,zaa,zay,g]
  ·have g:=big (n:=List.length (x++flM f 2)+List.length [32,115,104,97,114,101,100]) (by simp only[yhr,yhs,yht];omega);simp[flM]at g;simp only[Nat.zero_add,Nat.reduceAdd,flM];cases f.shared<;>simp[zab,gd,zaa,zay,g]
  ·omega
 ·rfl
end Go.Fw
namespace Go.Fw
open Go
set_option linter.unusedSimpArgs false
set_option linter.unusedVariables false
def txT(t:Typ):List UInt8:=[116,121,112,101,32]++t.name++(bif t.key==[]then[]else[32,107,101,121,32]++t.key)++[10]++t.fields.flatMap lnM
def txM(p:Part):List UInt8:=[112,97,114,116,32]++p.name++[10]++p.types.flatMap txT
structure Wt (t:Typ):Prop where
 name:t.name.length<=8
 key:t.key.length<=8
 fields:t.fields.length<=8
 field:∀f∈t.fields,Ln f
structure Wr (p:Part):Prop where
 name:p.name.length<=8
 types:p.types.length<=5
 type:∀t∈p.types,Wt t
theorem Wt.mk'{t:Typ}(h:KT KK t)(hl:lineM t=true):Wt t:=by
 unfold lineM at hl;simp only[yhb,Bool.or_eq_true,List.all_eq_true,yhc,yhe]at hl;refine⟨zdI hl.1,?_,hl.2.2.2.1,fun f hf=>.mk' (h.2.2.2 f hf) (hl.2.2.2.2 f hf)⟩;rcases hl.2.1 with h1|h1
 ·rw[h1];simp
 ·exact zdI h1
theorem zFG{α:Type}{l:List α}{g:α->List UInt8}{c:Nat}(h:∀x∈l,(g x).length<=c):(l.flatMap g).length<=c*l.length:=by
 induction l with
 |nil=>simp
 |cons x l ih=>have h1:=h x (by simp);have h2:=ih fun s hs=>h s (by simp[hs]);simp only[List.flatMap_cons,yhr,yhs];rw[Nat.mul_add];omega
theorem zrC{α:Type}{l:List α}{g:α->List UInt8}{i:Nat}(h:i<l.length):(l.take (i+1)).flatMap g=(l.take i).flatMap g++g l[i]:=by rw[List.take_succ_eq_append_getElem h,List.flatMap_append];simp
theorem zza{α:Type}{l:List α}{g:α->List UInt8}{c n:Nat}(h:∀x∈l,(g x).length<=c)(hn:l.length<=n)(i:Nat):((l.take i).flatMap g).length<=c*n:=by have h1:=zFG (l:=l.take i) (g:=g) fun x hx=>h x (List.mem_of_mem_take hx);have h2:(l.take i).length<=n:=Nat.le_trans (by rw[List.length_take];exact Nat.min_le_right _ _) hn;exact Nat.le_trans h1 (Nat.mul_le_mul_left c h2)
theorem Wt.flen{t:Typ}(h:Wt t)(i:Nat):((t.fields.take i).flatMap lnM).length<=76000000:=zza (fun f hf=>zu3 (h.field f hf)) h.fields i
theorem Wt.len{t:Typ}(h:Wt t):(txT t).length<=76000030:=by have h1:=h.flen t.fields.length;rw[List.take_length]at h1;have h2:=h.name;have h3:=h.key;unfold txT;cases(t.key==[])<;>simp only[cond_true,cond_false,yhr,yhs,yht]<;>omega
theorem Wr.tlen{p:Part}(h:Wr p)(i:Nat):((p.types.take i).flatMap txT).length<=380000150:=zza (fun f hf=>(h.type f hf).len) h.types i
theorem ztZ{p:Part}(h:Wr p):zlv p=some (txM p):=by
 rw[zne];unfold zla;have hn:=h.name;have ht:=h.types;rw[big (n:=List.length [112,97,114,116,32]+List.length p.name) (by simp;omega),big (n:=List.length ([112,97,114,116,32]++p.name)+List.length [10]) (by simp;omega)];simp only[zag];unfold txM;have l0:([112,97,114,116,32]++p.name++[10]).length<=20:=by simp;omega
 generalize[112,97,114,116,32]++p.name++[10]=z at *;rw[zdk (s0:=(z,(0:Int))) p.types.length (fun i=>(z++(p.types.take i).flatMap txT,(i:Int))) (z++p.types.flatMap txT,(p.types.length:Int)) (by simp) ?_ ?_]
 ·intro i hi;have hw:=h.type _ (ygh hi);have l1:=h.tlen i;have h3:=zam hi (up (Nat.le_trans ht (by decide)));rw[zrC hi];simp only[zaD hi,zax,zai hi,zaf,zag,zac];generalize p.types[i]=t at *;have l2:(z++(p.types.take i).flatMap txT).length<=380000200:=by rw[yhr];omega
  rw[<-List.append_assoc];generalize z++(p.types.take i).flatMap txT=y at *;have l3:=hw.name;have l4:=hw.key;have l5:=hw.fields;have l6:=hw.flen;(rw[zb0];rotate_left;(have:=hBM;simp only[yhr,yhs,yht,List.length_map,yhc,yhb];omega))
  (rw[zb0];rotate_left;(have:=hBM;simp only[yhr,yhs,yht,List.length_map,yhc,yhb];omega))
  have k1:(zab (t.key !=[]) (gd (decide (List.length (y++[116,121,112,101,32]++t.name)+List.length [32,107,101,121,32]<=BIG))
   (gd (decide (List.length (y++[116,121,112,101,32]++t.name++[32,107,101,121,32])+List.length t.key<=BIG))
    (some (y++[116,121,112,101,32]++t.name++[32,107,101,121,32]++t.key))))
   (some (y++[116,121,112,101,32]++t.name)))=some (y++([116,121,112,101,32]++t.name++(bif t.key==[]then[]else[32,107,101,121,32]++t.key))):=by
   (rw[zb0];rotate_left;(have:=hBM;simp only[yhr,yhs,yht,List.length_map,yhc,yhb];omega))
   (rw[zb0];rotate_left;(have:=hBM;simp only[yhr,yhs,yht,List.length_map,yhc,yhb];omega))
   simp only[bne];cases(t.key==[])<;>simp[zab]
  rw[k1,zac];have l7:(y++([116,121,112,101,32]++t.name++(bif t.key==[]then[]else[32,107,101,121,32]++t.key))).length<=380000250:=by cases(t.key==[])<;>simp<;>omega
  have e1:y++txT t=y++([116,121,112,101,32]++t.name++(bif t.key==[]then[]else[32,107,101,121,32]++t.key))++[10]++t.fields.flatMap lnM:=by unfold txT;simp only[List.append_assoc]
  rw[e1];generalize y++([116,121,112,101,32]++t.name++(bif t.key==[]then[]else[32,107,101,121,32]++t.key))=u at *;(rw[zb0];rotate_left;(have:=hBM;simp only[yhr,yhs,yht,List.length_map,yhc,yhb];omega))
  rw[zdk (s0:=(u++[10],(0:Int))) t.fields.length (fun i=>(u++[10]++(t.fields.take i).flatMap lnM,(i:Int))) (u++[10]++t.fields.flatMap lnM,(t.fields.length:Int)) (by simp) ?_ ?_]
  ·rw[h3];rfl
  ·intro j hj;have h4:=zam hj (up (Nat.le_trans l5 (by decide)));have l8:=l6 j;have l9:=zu3 (hw.field _ (ygh hj));simp only[zaD hj,zax,zai hj,zaf,zag,zac,zvp (hw.field _ (ygh hj)),h4];(rw[zb0];rotate_left;(have:=hBM;simp only[yhr,yhs,yht,List.length_map,yhc,yhb];omega))
   rw[zrC hj];simp only[List.append_assoc];rfl
  ·simp only[zan,zae,List.take_length]
 ·simp only[zan,zae,List.take_length]
theorem zHy(s:List UInt8):(s.map zaB).map zkB=s:=by
 rw[List.map_map];have:(zkB ∘ zaB)=id:=by funext c;show UInt8.ofNat (Int.toNat (c.toNat:Int))=c;rw[Int.toNat_natCast];exact UInt8.ofNat_toNat
 rw[this,List.map_id]
theorem zH9{s:List UInt8}(h:s.length<=9000000000):zc5 s=some ((s.length:Int),s.map zaB):=by rw[zfT];unfold zcX;rw[zg8];unfold zek;rw[zac];(rw[zb0];rotate_left;(have:=hBM;simp only[yhr,yhs,yht,List.length_map,yhc,yhb];omega))
theorem zw5{s b:List UInt8}(h0:0<b.length)(h:b.length+s.length<=9000000000):zat (s,b.map zaB)=some ((s.length:Int),(b++s).map zaB):=by
 rw[zdp];unfold za9;dsimp only;rw[zdQ];unfold zbC;rw[zac,zb0 (b:=decide (List.length (b.map zaB)=List.length (b.map zaB))) (by simp)];(rw[zb0];rotate_left;(have:=hBM;simp only[yhr,yhs,yht,List.length_map,yhc,yhb];omega))
 rw[List.map_append]
theorem ztx{p:Part}(h:Wr p):zem p=some (txM p):=by
 rw[zgY];unfold zeg;have hn:=h.name;have ht:=h.types;(rw[zb0];rotate_left;(have:=hBM;simp only[yhr,yhs,yht,List.length_map,yhc,yhb];omega))
 (rw[zb0];rotate_left;(have:=hBM;simp only[yhr,yhs,yht,List.length_map,yhc,yhb];omega))
 unfold txM;have l0:([112,97,114,116,32]++p.name++[10]).length<=20:=by simp;omega
 have l00:0<([112,97,114,116,32]++p.name++[10]).length:=by simp
 generalize[112,97,114,116,32]++p.name++[10]=z at *;rw[zH9 (by omega),zac];rw[zdk (s0:=((0:Int),z.map zaB)) p.types.length (fun i=>((i:Int),(z++(p.types.take i).flatMap txT).map zaB)) ((p.types.length:Int),(z++p.types.flatMap txT).map zaB) (by simp) ?_ ?_]
 ·have hs:zhB ((z++p.types.flatMap txT).map zaB)=some (z++p.types.flatMap txT):=by rw[zkd];unfold zhx;rw[zHy];(rw[zb0];rotate_left;(have:=hBM;simp only[yhr,yhs,yht,List.length_map,yhc,yhb];omega))
  rw[hs,zac]
 ·intro i hi;have hw:=h.type _ (ygh hi);have l1:=h.tlen i;have h3:=zam hi (up (Nat.le_trans ht (by decide)));rw[zrC hi];simp only[zaD hi,zax,zai hi,zaf,zag,zac];generalize p.types[i]=t at *;have l2:(z++(p.types.take i).flatMap txT).length<=380000200:=by rw[yhr];omega
  have l20:0<(z++(p.types.take i).flatMap txT).length:=by rw[yhr];omega
  rw[<-List.append_assoc];generalize z++(p.types.take i).flatMap txT=y at *;have l3:=hw.name;have l4:=hw.key;have l5:=hw.fields;have l6:=hw.flen;(rw[zb0];rotate_left;(have:=hBM;simp only[yhr,yhs,yht,List.length_map,yhc,yhb];omega))
  rw[zw5 l20 (by(have:=hBM;simp only[yhr,yhs,yht,List.length_map,yhc,yhb];omega)),zac];have l21:(y++([116,121,112,101,32]++t.name)).length<=380000220:=by(have:=hBM;simp only[yhr,yhs,yht,List.length_map,yhc,yhb];omega)
  have l22:0<(y++([116,121,112,101,32]++t.name)).length:=by(have:=hBM;simp only[yhr,yhs,yht,List.length_map,yhc,yhb];omega)
  have e0:y++([116,121,112,101,32]++t.name++(bif t.key==[]then[]else[32,107,101,121,32]++t.key))=(y++([116,121,112,101,32]++t.name))++(bif t.key==[]then[]else[32,107,101,121,32]++t.key):=by simp only[List.append_assoc]
  have e1:y++txT t=y++([116,121,112,101,32]++t.name++(bif t.key==[]then[]else[32,107,101,121,32]++t.key))++[10]++t.fields.flatMap lnM:=by unfold txT;simp only[List.append_assoc]
  rw[e1,e0];generalize y++([116,121,112,101,32]++t.name)=v at *;have k1:(zab (t.key !=[])
   (gd (decide (List.length [32,107,101,121,32]+List.length t.key<=BIG))
    (zaa (zat ([32,107,101,121,32]++t.key,v.map zaB)) fun(x:Int×List Int)=>some x.snd))
   (some (v.map zaB)))=some ((v++(bif t.key==[]then[]else[32,107,101,121,32]++t.key)).map zaB):=by
   (rw[zb0];rotate_left;(have:=hBM;simp only[yhr,yhs,yht,List.length_map,yhc,yhb];omega))
   rw[zw5 l22 (by(have:=hBM;simp only[yhr,yhs,yht,List.length_map,yhc,yhb];omega)),zac];simp only[bne];cases(t.key==[])<;>simp[zab]
  rw[k1,zac];have l7:(v++(bif t.key==[]then[]else[32,107,101,121,32]++t.key)).length<=380000250:=by cases(t.key==[])<;>simp<;>omega
  have l8:0<(v++(bif t.key==[]then[]else[32,107,101,121,32]++t.key)).length:=by rw[yhr];omega
  generalize v++(bif t.key==[]then[]else[32,107,101,121,32]++t.key)=u at *;rw[zw5 l8 (by(have:=hBM;simp only[yhr,yhs,yht,List.length_map,yhc,yhb];omega)),zac];dsimp only;rw[zdk (s0:=((0:Int),List.map zaB (u++[(10:UInt8)]))) t.fields.length (fun i=>((i:Int),List.map zaB (u++[(10:UInt8)]++(t.fields.take i).flatMap lnM))) ((t.fields.length:Int),List.map zaB (u++[(10:UInt8)]++t.fields.flatMap lnM)) (by simp) ?_ ?_]
  ·rw[h3];rfl
  ·intro j hj;have h4:=zam hj (up (Nat.le_trans l5 (by decide)));have l8:=l6 j;have l9:=zu3 (hw.field _ (ygh hj));simp only[zaD hj,zax,zai hj,zaf,zag,zac,zuW (hw.field _ (ygh hj)),h4];rw[zw5 (by(have:=hBM;simp only[yhr,yhs,yht,List.length_map,yhc,yhb];omega)) (by(have:=hBM;simp only[yhr,yhs,yht,List.length_map,yhc,yhb];omega)),zac,zrC hj];simp only[List.append_assoc];rfl
  ·simp only[zan,zae,List.take_length]
 ·simp only[zan,zae,List.take_length]
end Go.Fw
namespace Go.Fw
open Go
set_option linter.unusedSimpArgs false
set_option linter.unusedVariables false
theorem zHC{α:Type}(l:List α):((l.length:Int)==0)= !decide (0<l.length):=zDp _
theorem ztX{p:Part}{i:Nat}(hp:KP KK p)(hi:i<p.types.length):zlt (p,(i:Int))=some (zbN p i p.types[i]):=by
 rw[znc];unfold zk7;dsimp only;have ht:=hp.2.2 _ (ygh hi);have hT:=up ht.2.2.1;have hP:=up hp.2.1;simp only[zax,zai hi,zag,zac,zea (up ht.1),zea (up ht.2.1),zHC,zDo];generalize hgt:p.types[i]=t at *;have k1:(zab (!nameM t.name) (some true) (zab (t.key !=[]) (zab (!nameM t.key) (some true) (zab (!decide (0<t.fields.length)) (some true) (some !decide (t.fields.length<=8)))) (zab (!decide (0<t.fields.length)) (some true) (some !decide (t.fields.length<=8)))))
  =some (!(nameM t.name&&((t.key==[] ||nameM t.key)&&(decide (0<t.fields.length)&&decide (t.fields.length<=8))))):=by
  simp only[bne];cases nameM t.name<;>cases(t.key==[])<;>cases nameM t.key<;>cases decide (0<t.fields.length)<;>cases decide (t.fields.length<=8)<;>rfl
 rw[k1,zac];have k2:lineM t=((nameM t.name&&((t.key==[] ||nameM t.key)&&(decide (0<t.fields.length)&&decide (t.fields.length<=8))))&&t.fields.all zpr):=by unfold lineM;simp only[Bool.and_assoc]
 unfold zbN;rw[k2];cases(nameM t.name&&((t.key==[] ||nameM t.key)&&(decide (0<t.fields.length)&&decide (t.fields.length<=8))))with
 |false=>rfl
 |true=>
  simp only[Bool.not_true,zae,Bool.true_and];rw[zcj (s0:=(0:Int)) t.fields (fun i=>(i:Int)) (t.fields.length:Int) (fun _ f=>bif zpr f then none else some 1) rfl ?_ ?_]
  ·rw[zce,zeq];cases t.fields.all zpr with
   |false=>rfl
   |true=>
    simp only[cond_true,zav,zdj hP,zac,bne,Bool.not_true,cond_false];cases(ixM (fun u:Typ=>u.name==t.name) p.types==(i:Int))with
    |false=>rfl
    |true=>
     simp only[Bool.not_true,zae,cond_false];rw[zcj (s0:=(0:Int)) t.fields (fun i=>(i:Int)) (t.fields.length:Int) (fun i f=>bif (ixM (fun g:Field=>g.name==f.name) t.fields==(i:Int))then none else some 2) rfl ?_ ?_]
     ·rw[zce];show _=some (bif !zsv t then _ else _);unfold zsv;cases zqD (fun i f=>ixM (fun g:Field=>g.name==f.name) t.fields==(i:Int)) 0 t.fields with
      |false=>rfl
      |true=>
       simp only[cond_true,Bool.not_true,cond_false];rw[zcj (s0:=(0:Int)) t.fields (fun i=>(i:Int)) (t.fields.length:Int) (fun _ f=>bif knownM p f then none else some 3) rfl ?_ ?_]
       ·rw[zce,zeq];cases t.fields.all (knownM p)with
        |false=>rfl
        |true=>
         simp only[cond_true,Bool.not_true,cond_false,zxT hT,zac];cases zD1 t with
         |false=>rfl
         |true=>
          simp only[Bool.not_true,zae,cond_false];rw[zcj (s0:=(0:Int)) t.fields (fun i=>(i:Int)) (t.fields.length:Int) (fun _ f=>bif zkp t f then none else some 5) rfl ?_ ?_]
          ·rw[zce,zeq];cases t.fields.all (zkp t)<;>rfl
          ·intro j hj;have h3:=zam hj hT;have hf:=ht.2.2.2 _ (ygh hj);simp only[zaD hj,zax,zai hj,zaf,zag,zac,h3,ztY hT (up hf.2.2.1)];generalize t.fields[j]=f;unfold zkp;cases zxG t f<;>cases f.far<;>cases f.shared<;>rfl
          ·simp only[zan,zae]
       ·intro j hj;have h3:=zam hj hT;simp only[zaD hj,zax,zai hj,zaf,zag,zac,h3,zsj,zdj hP,zCQ,<-zw3];generalize t.fields[j]=f;unfold knownM;cases zsi f.of<;>cases(tyM p f.of).isSome<;>rfl
       ·simp only[zan,zae]
     ·intro j hj;have h3:=zam hj hT;simp only[zaD hj,zax,zai hj,zaf,zag,zac,h3,zeI hT];cases(ixM (fun g:Field=>g.name==t.fields[j].name) t.fields==(j:Int))<;>rfl
     ·simp only[zan,zae]
  ·intro j hj;have h3:=zam hj hT;have hf:=ht.2.2.2 _ (ygh hj);simp only[zaD hj,zax,zai hj,zaf,zag,zac,h3,zea (up hf.1),zea (up hf.2.1),zsj];generalize t.fields[j]=f at *;unfold zpr;have k3:(zab (!nameM f.name) (some true) (zab (!zsi f.of) (some !nameM f.of) (some false)))=some (!(nameM f.name&&(zsi f.of ||nameM f.of))):=by cases nameM f.name<;>cases zsi f.of<;>cases nameM f.of<;>rfl
   rw[k3,zac,<-Bool.and_assoc];cases(nameM f.name&&(zsi f.of ||nameM f.of))with
   |false=>rfl
   |true=>
    simp only[Bool.not_true,zae,Bool.true_and];rw[zcj (s0:=(0:Int)) f.needs (fun i=>(i:Int)) (f.needs.length:Int) (fun _ s=>bif nameM s then none else some (Sum.inr (Sum.inr 1))) rfl ?_ ?_]
    ·rw[zce,zeq];cases f.needs.all nameM<;>rfl
    ·intro k hk;have h4:=zam hk (up hf.2.2.1);simp only[zaD hk,zax,zai hk,zaf,zag,zac,h4,zea (up (hf.2.2.2 _ (ygh hk)))];cases nameM f.needs[k]<;>rfl
    ·simp only[zan,zae]
  ·simp only[zan,zae]
theorem zns(p:Part)(i:Nat)(t:Typ):0<=zbN p i t/\zbN p i t<=5/\(zbN p i t=0->lineM t=true):=by unfold zbN;cases lineM t<;>cases(ixM (fun u:Typ=>u.name==t.name) p.types==(i:Int))<;>cases zsv t<;>cases t.fields.all (knownM p)<;>cases zD1 t<;>cases t.fields.all (zkp t)<;>simp
def pcF(p:Part)(i:Nat)(t:Typ):Option PFault:=bif !(zbN p i t==0)then some ⟨(i:Int)+1,zbN p i t⟩else bif t.fields.any isQ then some ⟨(i:Int)+1,7⟩else none
def noRoot(p:Part):Bool:=match p.types with
|[]=>true
|t:: _=>t.name !=[113,117,101,114,121] ||t.key !=[]
def pcM(p:Part):PFault:=
 bif decide (5<p.types.length)then⟨6,6⟩else bif !nameM p.name then⟨0,1⟩else bif noRoot p then⟨0,7⟩else
 match fsI (pcF p) 0 p.types with
 |some r=>r
 |none=>bif decide (1500<(txM p).length)then⟨0,6⟩else⟨0,0⟩
theorem zfu{α Z:Type}{f:Nat->α->Option Z}{xs:List α}{i:Nat}(h:fsI f i xs=none):∀(j:Nat)(hj:j<xs.length),f (i+j) xs[j]=none:=by
 induction xs generalizing i with
 |nil=>intro j hj;simp at hj
 |cons x xs ih=>
  simp only[fsI]at h;cases hx:f i x with
  |some r=>rw[hx]at h;cases h
  |none=>
   rw[hx]at h;intro j hj;cases j with
   |zero=>exact hx
   |succ j=>have:=ih h j (by simpa using hj);rw[Nat.add_assoc,Nat.add_comm 1 j]at this;exact this
theorem zC0{p:Part}(hp:KP KK p)(h5:p.types.length<=5)(hn:nameM p.name=true)(h:fsI (pcF p) 0 p.types=none):Wr p:=by
 refine⟨zdI hn,h5,fun t ht=>?_⟩;obtain⟨j,hj,rfl⟩:=List.getElem_of_mem ht;have:=zfu h j hj;unfold pcF at this;refine .mk' (hp.2.2 _ ht) ((zns p (0+j) p.types[j]).2.2 ?_);cases hz:(zbN p (0+j) p.types[j]==0)with
 |true=>simpa using hz
 |false=>rw[hz]at this;cases this
theorem zqF(n m:Nat):decide ((n:Int)>(m:Int))=decide (m<n):=by
 by_cases h:m<n
 ·simp[h]
 ·simp[h]
theorem ztK(p:Part):(zab ((↑(List.length p.types):Int)==0) (some true) (zaa p.types[Int.toNat 0]? fun(x:Typ)=>zab (x.name !=[113,117,101,114,121]) (some true) (zaa p.types[Int.toNat 0]? fun(x:Typ)=>some (x.key !=[]))))=some (noRoot p):=by
 unfold noRoot;cases h:p.types with
 |nil=>rfl
 |cons t ts=>rw[zD6];simp only[yhs,Nat.zero_lt_succ,decide_true,Bool.not_true,zae,Int.toNat_zero,List.getElem?_cons_zero,zac];cases(t.name !=[113,117,101,114,121])<;>rfl
theorem znD{p:Part}(hp:KP KK p):zfI p=some (pcM p):=by
 rw[zj8];unfold zhs;rw[show((5:Int))=((5:Nat):Int)from rfl,zqF];unfold pcM;cases h5:decide (5<p.types.length)with
 |true=>rfl
 |false=>
  have h5':p.types.length<=5:=by simpa using h5
  rw[zae,zea (up hp.1),zac,ztK];cases hn:nameM p.name with
  |false=>rfl
  |true=>
   simp only[Bool.not_true,zae,zac,cond_false];cases noRoot p with
   |true=>rfl
   |false=>
    simp only[zae,cond_false];rw[zcj (s0:=((0:Int),(0:Int),(0:Int))) p.types (fun i=>((i:Int),(0:Int),(0:Int))) ((p.types.length:Int),(0:Int),(0:Int)) (pcF p) rfl ?_ ?_]
    ·cases hf:fsI (pcF p) 0 p.types with
     |some r=>rfl
     |none=>simp only[zav];rw[ztZ (zC0 hp h5' hn hf),zac,show((1500:Int))=((1500:Nat):Int)from rfl,zqF];cases decide (1500<(txM p).length)<;>rfl
    ·intro i hi;have h3:=zam hi (up hp.2.1);have ht:=hp.2.2 _ (ygh hi);simp only[zaD hi,zaf,ztX hp hi,zac,h3,zag,bne];unfold pcF;cases(zbN p i p.types[i]==0)with
     |false=>rfl
     |true=>
      simp only[Bool.not_true,zae,cond_false];rw[zcj (s0:=((0:Int),(0:Int),(0:Int))) p.types[i].fields (fun i=>((i:Int),(0:Int),(0:Int))) ((p.types[i].fields.length:Int),(0:Int),(0:Int)) (fun _ f=>bif !isQ f then none else some (Sum.inr (Sum.inr ⟨(i:Int)+1,7⟩))) rfl ?_ ?_]
      ·rw[zce,zeq];have:p.types[i].fields.all (fun f=>!isQ f)= !p.types[i].fields.any isQ:=by rw[List.all_eq_not_any_not];simp
       rw[this];cases p.types[i].fields.any isQ<;>rfl
      ·intro j hj;have h4:=zam hj (up ht.2.2.1);simp only[zax,zai hi,zaD hj,zai hj,zaf,zag,zac,h4];unfold isQ;cases(p.types[i].fields[j].of==[113,117,101,114,121])<;>rfl
      ·simp only[zax,zai hi,zan,zae,zag,zac]
    ·simp only[zan,zae]
theorem ztw{p:Part}(hp:KP KK p):zfj p=some (pcM p):=by
 rw[zh9];unfold ze9;rw[show((5:Int))=((5:Nat):Int)from rfl,zqF];unfold pcM;cases h5:decide (5<p.types.length)with
 |true=>rfl
 |false=>
  have h5':p.types.length<=5:=by simpa using h5
  rw[zae,zd3 (up hp.1),zac,ztK];cases hn:nameM p.name with
  |false=>rfl
  |true=>
   simp only[Bool.not_true,zae,zac,cond_false];cases noRoot p with
   |true=>rfl
   |false=>
    simp only[zae,cond_false];rw[zcj (s0:=((0:Int),(0:Int),(0:Int))) p.types (fun i=>((i:Int),(0:Int),(0:Int))) ((p.types.length:Int),(0:Int),(0:Int)) (pcF p) rfl ?_ ?_]
    ·cases hf:fsI (pcF p) 0 p.types with
     |some r=>rfl
     |none=>simp only[zav];rw[ztx (zC0 hp h5' hn hf),zac,show((1500:Int))=((1500:Nat):Int)from rfl,zqF];cases decide (1500<(txM p).length)<;>rfl
    ·intro i hi;have h3:=zam hi (up hp.2.1);have hc:=zns p i p.types[i];simp only[zaD hi,zaf,zt1 hp hi,zac,h3,zag];unfold pcF;cases hz:(zbN p i p.types[i]==0)with
     |false=>
      have hz':¬zbN p i p.types[i]=0:=by simpa using hz
      have:decide (zbN p i p.types[i]>0)=true:=by simp;omega
      simp only[Bool.not_false,cond_true,this,zaf]
     |true=>simp only[Bool.not_true,cond_false];cases p.types[i].fields.any isQ<;>rfl
    ·simp only[zan,zae]
def okP(p:Part):Bool:=(pcM p).code==0
theorem zEv(p:Part):((pcM p).pos==0&&((pcM p).code==0&&true))=okP p:=by
 unfold okP;cases hc:((pcM p).code==0)with
 |false=>simp
 |true=>
  have hc':(pcM p).code=0:=by simpa using hc
  have:(pcM p).pos=0:=by
   unfold pcM at hc'|-;cases h1:decide (5<p.types.length)with
   |true=>rw[h1]at hc';cases hc'
   |false=>
    rw[h1]at hc';simp only[cond_false]at hc'|-;cases h2:nameM p.name with
    |false=>rfl
    |true=>
     rw[h2]at hc';simp only[Bool.not_true,cond_false]at hc'|-;cases h3:noRoot p with
     |true=>rfl
     |false=>
      rw[h3]at hc';simp only[cond_false]at hc'|-;cases h4:fsI (pcF p) 0 p.types with
      |none=>cases decide (1500<(txM p).length)<;>rfl
      |some r=>
       rw[h4]at hc';exfalso;have hr:∀(xs:List Typ)(i:Nat)(r:PFault),fsI (pcF p) i xs=some r->r.code≠0:=by
        intro xs;induction xs with
        |nil=>intro i r h;cases h
        |cons x xs ih=>
         intro i r h;simp only[fsI]at h;cases hx:pcF p i x with
         |none=>rw[hx]at h;exact ih _ _ h
         |some r'=>
          rw[hx]at h;cases h;unfold pcF at hx;cases hz:(zbN p i x==0)with
          |false=>rw[hz]at hx;cases hx;simpa using hz
          |true=>
           rw[hz]at hx;simp only[Bool.not_true,cond_false]at hx;cases hq:x.fields.any isQ with
           |true=>rw[hq]at hx;cases hx;simp
           |false=>rw[hq]at hx;cases hx
       exact hr _ _ _ h4 hc'
  simp[this]
theorem ztO{p:Part}(hp:KP KK p):zg2 p=some (okP p):=by rw[zlm];unfold zjv;rw[ztw hp,zac,zEv]
end Go.Fw
namespace Go.Fw
open Go
set_option linter.unusedSimpArgs false
set_option linter.unusedVariables false
theorem zFB(i:Nat):decide ((i:Int)>=0)=true:=by simp
theorem znq(i:Nat):decide ((i:Int)<0)=false:=by simp
theorem zd9{p:Part}{n f:List UInt8}(hp:KP KK p):zdT (p,n,f)=some ((zeK p n f).getD fd0,(zeK p n f).isSome):=by
 rw[zqw];unfold zre;dsimp only;rw[zdj (up hp.2.1),zac];unfold zeK tyM;rcases zaT (fun t:Typ=>t.name==n) p.types with⟨h1,h2,_⟩|⟨i,hi,h1,h2,_,_⟩
 ·rw[h1,h2];rfl
 ·rw[h1,h2,znq,zae,zax,zag,zai hi,zac,zeI (up (hp.2.2 _ (ygh hi)).2.2.1),zac];show _=some ((fdM p.types[i] f).getD fd0,(fdM p.types[i] f).isSome);unfold fdM;rcases zaT (fun t:Field=>t.name==f) p.types[i].fields with⟨g1,g2,_⟩|⟨j,hj,g1,g2,_,_⟩
  ·rw[g1,g2];rfl
  ·rw[g1,g2,znq,zae];simp only[zax,zag,zac,zai hj];rfl
theorem zjf{p:Part}{n:List UInt8}{t:Typ}(h:tyM p n=some t):t∈p.types/\t.name=n:=by unfold tyM at h;exact⟨List.mem_of_find?_eq_some h,by simpa using List.find?_some h⟩
theorem zy6{t:Typ}{n:List UInt8}{f:Field}(h:fdM t n=some f):f∈t.fields/\f.name=n:=by unfold fdM at h;exact⟨List.mem_of_find?_eq_some h,by simpa using List.find?_some h⟩
theorem zjL{p:Part}{n f:List UInt8}{g:Field}(h:zeK p n f=some g):∃t∈p.types,t.name=n/\tyM p n=some t/\g∈t.fields/\g.name=f/\fdM t f=some g:=by
 unfold zeK at h;cases ht:tyM p n with
 |none=>rw[ht]at h;cases h
 |some t=>rw[ht]at h;exact⟨t,(zjf ht).1,(zjf ht).2,rfl,(zy6 h).1,(zy6 h).2,h⟩
theorem znv{p:Part}{n f:List UInt8}(hp:KP KK p):zcM (p,n,f)=some ((zeK p n f).getD fd0,(zeK p n f).isSome):=by
 rw[zgX];unfold zef;dsimp only;rw[zrA (up hp.2.1),zac];unfold zeK;cases ht:tyM p n with
 |none=>
  simp only[Option.getD_none,Option.isSome_none,Option.bind_none];rw[show zbe (⟨ty0.name,ty0.key,ty0.fields⟩,f)=some (fd0,false)from by rw[zoj (by show([]:List Field).length<=_;simp)];rfl]
  rfl
 |some t=>
  simp only[Option.getD_some,Option.isSome_some,Option.bind_some];rw[show zbe (⟨t.name,t.key,t.fields⟩,f)=some ((fdM t f).getD fd0,(fdM t f).isSome)from
   zoj (up (hp.2.2 _ (zjf ht).1).2.2.1)]
  rfl
def zpo(ps:List Part)(n:List UInt8):List UInt8:=(ps.findSome? fun p=>match tyM p n with
|some t=>bif t.key !=[]then some t.key else none
|none=>none).getD []
theorem zkS{ps:List Part}{n:List UInt8}(hp:KL KK ps):zmj (ps,n)=some (zpo ps n):=by
 rw[zqz];unfold zrh;dsimp only;unfold zpo;rw[zcj (s0:=(0:Int)) ps (fun i=>(i:Int)) (ps.length:Int) (fun _ p=>match tyM p n with
  |some t=>bif t.key !=[]then some t.key else none
  |none=>none) rfl ?_ ?_]
 ·rw[zon];cases ps.findSome? _<;>rfl
 ·intro i hi;have h3:=zam hi (up hp.1);have hq:=hp.2 _ (ygh hi);simp only[zaD hi,zax,zai hi,zaf,zag,zac,h3,zdj (up hq.2.1)];unfold tyM;rcases zaT (fun t:Typ=>t.name==n) ps[i].types with⟨h1,h2,_⟩|⟨k,hk,h1,h2,_,_⟩
  ·rw[h1,h2];rfl
  ·rw[h1,h2];simp only[zFB,zaf,zax,zag,zai hk,zac];cases(ps[i].types[k].key !=[])<;>rfl
 ·simp only[zan,zae]
theorem zkC{ps:List Part}{n:List UInt8}(hp:KL KK ps):zg1 (ps,n)=some (zpo ps n):=by
 rw[zm6];unfold zk1;dsimp only;unfold zpo;rw[zcj (s0:=(0:Int)) ps (fun i=>(i:Int)) (ps.length:Int) (fun _ p=>match tyM p n with
  |some t=>bif t.key !=[]then some t.key else none
  |none=>none) rfl ?_ ?_]
 ·rw[zon];cases ps.findSome? _<;>rfl
 ·intro i hi;have h3:=zam hi (up hp.1);have hq:=hp.2 _ (ygh hi);simp only[zaD hi,zax,zai hi,zaf,zag,zac,h3,zrA (up hq.2.1)];cases tyM ps[i] n with
  |none=>rfl
  |some t=>simp only[Option.getD_some];cases(t.key !=[])<;>rfl
 ·simp only[zan,zae]
def ziw(n f:List UInt8)(p:Part):Bool:=match zeK p n f with
|some g=>!g.far
|none=>false
def zbG(n f:List UInt8):Nat->List Part->List Int
|_,[]=>[]
|i,p:: ps=>(bif ziw n f p then[(i:Int)]else[])++zbG n f (i+1) ps
theorem ztN(n f:List UInt8)(ps:List Part)(k i:Nat)(h:i<ps.length):zbG n f k (ps.take (i+1))=zbG n f k (ps.take i)++(bif ziw n f ps[i]then[((k+i:Nat):Int)]else[]):=by
 induction ps generalizing k i with
 |nil=>simp at h
 |cons p ps ih=>
  cases i with
  |zero=>simp[zbG]
  |succ i=>simp only[List.take_succ_cons,zbG,List.getElem_cons_succ];rw[ih (k+1) i (by simpa using h),List.append_assoc,show k+1+i=k+(i+1) by omega]
theorem zl6(n f:List UInt8)(ps:List Part)(k:Nat):(zbG n f k ps).length<=ps.length:=by
 induction ps generalizing k with
 |nil=>simp[zbG]
 |cons p ps ih=>simp only[zbG,yhr,yhs];have:=ih (k+1);cases ziw n f p<;>simp<;>omega
theorem zpB(n f:List UInt8)(ps:List Part)(i:Nat)(h:ps.length<=KK):(zbG n f 0 (ps.take i)).length<=KK:=by refine Nat.le_trans (zl6 _ _ _ _) (Nat.le_trans ?_ h);rw[List.length_take];exact Nat.min_le_right _ _
theorem zwx(n f:List UInt8)(p:Part):(zab (zeK p n f).isSome (some !((zeK p n f).getD fd0).far) (some false))=some (ziw n f p):=by unfold ziw;cases zeK p n f<;>rfl
theorem zmW{ps:List Part}{n f:List UInt8}(hp:KL KK ps):zfD (ps,n,f)=some (zbG n f 0 ps):=by
 rw[zlz];unfold zjA;dsimp only;have hk:KK=1048576:=rfl;rw[zdk (s0:=((0:Int),([]:List Int))) ps.length (fun i=>((i:Int),zbG n f 0 (ps.take i))) ((ps.length:Int),zbG n f 0 ps) rfl ?_ ?_]
 ·intro i hi;have h3:=zam hi (up hp.1);have l1:=zpB n f ps i hp.1;simp only[zaD hi,zax,zai hi,zaf,zag,zac,h3,zd9 (hp.2 _ (ygh hi)),zwx];rw[ztN _ _ _ _ _ hi];(rw[zb0];rotate_left;(have:=hBM;simp only[yhr,yhs,yht,List.length_map,yhc,yhb];omega))
  rw[Nat.zero_add];cases ziw n f ps[i]<;>simp[zab,zac]
 ·simp only[zan,zae,List.take_length]
theorem zqV{ps:List Part}{n f:List UInt8}(hp:KL KK ps):zfN (ps,n,f)=some (zbG n f 0 ps):=by
 rw[zj9];unfold zht;dsimp only;have hk:KK=1048576:=rfl;rw[zdk (s0:=((0:Int),([]:List Int))) ps.length (fun i=>((i:Int),zbG n f 0 (ps.take i))) ((ps.length:Int),zbG n f 0 ps) rfl ?_ ?_]
 ·intro i hi;have h3:=zam hi (up hp.1);have l1:=zpB n f ps i hp.1;simp only[zaD hi,zax,zai hi,zaf,zag,zac,h3,znv (hp.2 _ (ygh hi)),zwx];rw[ztN _ _ _ _ _ hi];(rw[zb0];rotate_left;(have:=hBM;simp only[yhr,yhs,yht,List.length_map,yhc,yhb];omega))
  rw[Nat.zero_add];cases ziw n f ps[i]<;>simp[zab,zac]
 ·simp only[zan,zae,List.take_length]
def zaq(ps:List Part)(n f:List UInt8):List Field:=ps.filterMap fun p=>zeK p n f
theorem zqR{ps:List Part}{n f:List UInt8}{i:Nat}(h:i<ps.length):zaq (ps.take (i+1)) n f=zaq (ps.take i) n f++(match zeK ps[i] n f with
|some g=>[g]
|none=>[]):=by
 unfold zaq;rw[List.take_succ_eq_append_getElem h,List.filterMap_append];cases hg:zeK ps[i] n f<;>simp[hg]
theorem zhf(ps:List Part)(n f:List UInt8):(zaq ps n f).length<=ps.length:=List.length_filterMap_le _ _
theorem zlQ{ps:List Part}{n f:List UInt8}(hp:KL KK ps):zb3 (ps,n,f)=some (zaq ps n f):=by
 rw[ziD];unfold zge;dsimp only;have hk:KK=1048576:=rfl;rw[zdk (s0:=((0:Int),([]:List Field))) ps.length (fun i=>((i:Int),zaq (ps.take i) n f)) ((ps.length:Int),zaq ps n f) rfl ?_ ?_]
 ·intro i hi;have h3:=zam hi (up hp.1);have l1:=zhf (ps.take i) n f;have l2:(ps.take i).length<=KK:=Nat.le_trans (by rw[List.length_take];exact Nat.min_le_right _ _) hp.1;simp only[zaD hi,zax,zai hi,zaf,zag,zac,h3,znv (hp.2 _ (ygh hi))];rw[zqR hi];(rw[zb0];rotate_left;(have:=hBM;simp only[yhr,yhs,yht,List.length_map,yhc,yhb];omega))
  cases zeK ps[i] n f<;>simp[zab,zac]
 ·simp only[zan,zae,List.take_length]
def zcD(ps:List Part)(n f:List UInt8):List (List UInt8):=((zaq ps n f).findSome? fun g=>bif decide (0<g.needs.length)then some g.needs else none).getD []
theorem zmM{ps:List Part}{n f:List UInt8}(hp:KL KK ps):zdS (ps,n,f)=some (zcD ps n f):=by
 rw[zka];unfold zhu;dsimp only;rw[zlQ hp,zac];unfold zcD;have l1:=zhf ps n f;rw[zcj (s0:=(0:Int)) (zaq ps n f) (fun i=>(i:Int)) ((zaq ps n f).length:Int) (fun _ g=>bif decide (0<g.needs.length)then some g.needs else none) rfl ?_ ?_]
 ·rw[zon];cases(zaq ps n f).findSome? _<;>rfl
 ·intro i hi;have h3:=zam hi (up (Nat.le_trans l1 hp.1));simp only[zaD hi,zax,zai hi,zaf,zag,zac,h3,zor];cases decide (0<(zaq ps n f)[i].needs.length)<;>rfl
 ·simp only[zan,zae]
end Go.Fw
