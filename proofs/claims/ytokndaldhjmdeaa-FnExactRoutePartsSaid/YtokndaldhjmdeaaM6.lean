/- A part of the proof: what stands for the program, its functions, and what they come to. -/
import Derived.Shelf.Strings.Builder1
import Derived.Lib.UnsafeStr
import Derived.Shelf.Slices.Clone
import Derived.Shelf.Sort.Plain
import Derived.Shelf.Slices.CompactI
import Derived.Shelf.Slices.Cells
import Derived.Shelf.Slices.In.SortNone
import Derived.Test.YtokndaldhjmdeaaProg
import Derived.KernelRfl
import Derived.Test.YtokndaldhjmdeaaM4
import Derived.Test.YtokndaldhjmdeaaM5
set_option linter.all false
/- What (*strings.Builder).String does to the memory, in full. -/
namespace Go.Proofs
open Go.Shelf Go.RowKit
variable {P : Program} {ρ : Ren}

set_option maxHeartbeats 1000000 in
set_option maxRecDepth 100000 in
theorem Any.String_exact (L : Lays.n169 P ρ) (X : Builder.Extra P ρ) (b g cap : Nat) (l : List UInt8) (cur : Array Value) (w : World) (hb : w.heap[b]? = some (.cells #[.pointer (some ⟨b, 0, none⟩), .slice (some ⟨g, 0, none⟩) l.length cap] (ρ.t 72) (0, 0)))
    (hg : w.heap[g]? = some (.cells cur (ρ.t 5) (0, 0))) (h0 : l ≠ []) (hc : l.length ≤ cap) (hcur : cap ≤ cur.size) (h63 : l.length ≤ 9223372036854775807) (hcell : ∀ (j : Nat) (hj : j < l.length), cur[j]? = some (.int .u8 l[j].toNat)) :
    Calls P (ρ.f 169) #[.pointer (some ⟨b, 0, none⟩)] w fun e w' => e = .returned (.string ⟨l.toArray⟩) ∧ w' = w.drew.freeze ⟨g, 0, none⟩ l.length := by
  have hl : 0 < l.length := List.length_pos_iff.2 h0
  have hbd : w.drew.heap[b]? = some (.cells #[.pointer (some ⟨b, 0, none⟩), .slice (some ⟨g, 0, none⟩) l.length cap] (ρ.t 72) (0, 0)) := hb
  have hgd : w.drew.heap[g]? = some (.cells cur (ρ.t 5) (0, 0)) := hg
  have c1 : w.drew.cell? ⟨b, 1, none⟩ = some (.slice (some ⟨g, 0, none⟩) l.length cap) := by rw [Lib.cell_of_heap hbd]; rfl
  have hSD : (Builtin.unsafeSliceData_ #[(ρ.t 37)] (ρ.t 127) #[.slice (some ⟨g, 0, none⟩) l.length cap]).run P w.drew = .ok (.pointer (some ⟨g, 0, none⟩)) w.drew :=
    Lib.run_unsafeSliceData_row _ _ _ _ _ _ (by omega)
  have hUS : (Builtin.unsafeString_ #[(ρ.t 127), (ρ.t 3)] (ρ.t 9) #[.pointer (some ⟨g, 0, none⟩), .int .i64 l.length]).run P w.drew = .ok (.string ⟨l.toArray⟩) (w.drew.freeze ⟨g, 0, none⟩ l.length) :=
    Lib.run_unsafeString_row w.drew (ρ.t 127) (ρ.t 3) (ρ.t 9) (ρ.t 5) L.t127 X.cellsByte g cur.size (by simp [World.shape?, hgd]) l h0 (by omega) h63 fun j x hx => by
      obtain ⟨hj, rfl⟩ := List.getElem?_eq_some_iff.1 hx
      rw [show (⟨g, 0, none⟩ : Addr).add j = ⟨g, 0 + j, none⟩ by unfold Addr.add; split <;> simp_all]
      have := hcell j hj
      simp only [World.cell?, hgd]
      simpa using this
  have mixed := L.mixed
  have t72 := L.t72; have a72 := L.a72; have z72 := L.z72; have v72 := L.v72; have u72 := run_underlying L.t72
  have t70 := L.t70; have a70 := L.a70; have z70 := L.z70; have v70 := L.v70; have u70 := run_underlying L.t70
  have t37 := L.t37; have a37 := L.a37; have z37 := L.z37; have v37 := L.v37; have u37 := run_underlying L.t37
  have t127 := L.t127; have a127 := L.a127; have z127 := L.z127; have v127 := L.v127; have u127 := run_underlying L.t127
  have t3 := L.t3; have a3 := L.a3; have z3 := L.z3; have v3 := L.v3; have u3 := run_underlying L.t3
  have t9 := L.t9; have a9 := L.a9; have z9 := L.z9; have v9 := L.v9; have u9 := run_underlying L.t9
  have t5 := X.t5; have a5 := X.a5; have z5 := X.z5; have v5 := X.v5; have u5 := run_underlying X.t5
  go_enter L.f169, Body.n169_ntmps ρ
  go_wp2
  go_region_o
  all_goals (go_wp2; go_ret; exact ⟨rfl, rfl⟩)

theorem froze_all (w : World) (g n : Nat) : (w.drew.freeze ⟨g, 0, none⟩ n).os = w.os ∧ (w.drew.freeze ⟨g, 0, none⟩ n).tape = w.tape ∧ (w.drew.freeze ⟨g, 0, none⟩ n).output = w.output ∧ w.heap.size ≤ (w.drew.freeze ⟨g, 0, none⟩ n).heap.size ∧ ∀ k, k ≠ g → k < w.heap.size → (w.drew.freeze ⟨g, 0, none⟩ n).heap[k]? = w.heap[k]? := by
  unfold World.freeze World.drew
  split
  · exact ⟨rfl, rfl, rfl, Nat.le_refl _, fun _ _ _ => rfl⟩
  · refine ⟨rfl, rfl, rfl, by simp, fun k hk _ => ?_⟩
    simp [Array.getElem?_modify, Ne.symm hk]
theorem Any.clone_strs (L : Lays2.n16 P ρ) (b o n c : Nat) (xs : List (List UInt8)) (w : World) (hn : n = xs.length) (hb : n * 16 ≤ 140737488355328) (hc : ∀ (j : Nat) (hj : j < xs.length), w.cell? ⟨b, o + j, none⟩ = some (.string ⟨xs[j].toArray⟩)) :
    Calls P (ρ.f 16) #[.slice (some ⟨b, o, none⟩) n c] w fun e w' => ∃ v', e = .returned v' ∧ w'.ownsRow w.heap.size (ρ.t 9) 1 v' n (xs.map fun x => Value.string ⟨x.toArray⟩) ∧ v' ≠ .slice none 0 0 ∧ Below w.heap.size w w' := by
  subst hn
  have := Any.slices_Clone_string L b o xs.length c (xs.map fun s => ⟨s.toArray⟩) w (by simp) hb (fun j hj => by
    have hj' : j < xs.length := by simpa using hj
    rw [hc j hj']
    simp [hj'])
  rw [List.take_of_length_le (by simp), List.map_map] at this
  exact this
theorem Any.clone_ints (L : Lays2.n15 P ρ) (b o n c : Nat) (xs : List Int) (w : World) (hn : n = xs.length) (hb : n * 8 ≤ 140737488355328) (hc : ∀ (j : Nat) (hj : j < xs.length), w.cell? ⟨b, o + j, none⟩ = some (.int .i64 xs[j])) :
    Calls P (ρ.f 15) #[.slice (some ⟨b, o, none⟩) n c] w fun e w' => ∃ v', e = .returned v' ∧ w'.ownsRow w.heap.size (ρ.t 3) 1 v' n (xs.map (Value.int .i64)) ∧ v' ≠ .slice none 0 0 ∧ Below w.heap.size w w' := by
  subst hn
  have := Any.slices_Clone_int L b o xs.length c xs w (Nat.le_refl _) hb (fun j hj => by
    rw [hc j hj]
    simp [hj])
  rw [List.take_length] at this
  exact this
end Go.Proofs
/- Contracts of the library at this program: the shelf's facts, laid. -/
namespace Go.Proofs
open Go.Shelf Go.Sort Go.RowKit
set_option maxRecDepth 100000
def Try.lays189_ren : Ren :=
  {
    f := fun x =>
      match x with
      | 189 => 15
      | 125 => 29
      | 257 => 28
      | 128 => 43
      | 129 => 44
      | 294 => 34
      | 295 => 35
      | 296 => 36
      | 297 => 37
      | 298 => 38
      | 299 => 39
      | 216 => 40
      | 300 => 41
      | 301 => 42
      | 328 => 46
      | 329 => 47
      | 330 => 48
      | 331 => 49
      | 332 => 50
      | 215 => 51
      | 343 => 52
      | n => n,
    t := fun x =>
      match x with
      | 28 => 24
      | 3 => 3
      | 46 => 53
      | 0 => 0
      | 51 => 73
      | 53 => 75
      | 4 => 4
      | 183 => 65
      | 182 => 64
      | 131 => 70
      | 5 => 5
      | 9 => 9
      | 218 => 77
      | 222 => 81
      | 228 => 84
      | 229 => 85
      | n => n,
    g := fun x =>
      x }
def Try.laysNm220_ren : Ren :=
  {
    f := fun x =>
      match x with
      | 20 => 17
      | n => n,
    t := fun x =>
      match x with
      | 22 => 24
      | 3 => 3
      | 4 => 4
      | 0 => 0
      | n => n,
    g := fun x =>
      x }
def Try.laysNm215_ren : Ren :=
  {
    f := fun x =>
      match x with
      | 15 => 16
      | n => n,
    t := fun x =>
      match x with
      | 22 => 24
      | 3 => 3
      | 4 => 4
      | n => n,
    g := fun x =>
      x }
theorem Try.lays189 : Lays.n189 Try.prog Try.lays189_ren :=
  { mixed := by kernel_rfl, f125 := Try.func29.trans (by kernel_rfl),
    f128 := Try.func43.trans (by kernel_rfl),
    f129 := Try.func44.trans (by kernel_rfl),
    f189 := Try.func15.trans (by kernel_rfl),
    f215 := Try.func51.trans (by kernel_rfl),
    f216 := Try.func40.trans (by kernel_rfl),
    f257 := Try.func28.trans (by kernel_rfl),
    f294 := Try.func34.trans (by kernel_rfl),
    f295 := Try.func35.trans (by kernel_rfl),
    f296 := Try.func36.trans (by kernel_rfl),
    f297 := Try.func37.trans (by kernel_rfl),
    f298 := Try.func38.trans (by kernel_rfl),
    f299 := Try.func39.trans (by kernel_rfl),
    f300 := Try.func41.trans (by kernel_rfl),
    f301 := Try.func42.trans (by kernel_rfl),
    f328 := Try.func46.trans (by kernel_rfl),
    f329 := Try.func47.trans (by kernel_rfl),
    f330 := Try.func48.trans (by kernel_rfl),
    f331 := Try.func49.trans (by kernel_rfl),
    f332 := Try.func50.trans (by kernel_rfl),
    f343 := Try.func52.trans (by kernel_rfl), t0 := Try.underlying0,
    a0 := Try.isAgg0, z0 := Try.sizeOf0, v0 := Try.zeroValue0, t3 := Try.underlying3, a3 := Try.isAgg3, z3 := Try.sizeOf3,
    v3 := Try.zeroValue3, t4 := Try.underlying4, a4 := Try.isAgg4, z4 := Try.sizeOf4, v4 := Try.zeroValue4,
    t5 := Try.underlying5, a5 := Try.isAgg5, z5 := Try.sizeOf5, v5 := Try.zeroValue5, t9 := Try.underlying9,
    a9 := Try.isAgg9, z9 := Try.sizeOf9, v9 := Try.zeroValue9, t28 := Try.underlying24, a28 := Try.isAgg24,
    z28 := Try.sizeOf24, v28 := Try.zeroValue24, t46 := Try.underlying53, a46 := Try.isAgg53, z46 := Try.sizeOf53,
    v46 := Try.zeroValue53, t51 := Try.underlying73, a51 := Try.isAgg73, z51 := Try.sizeOf73, v51 := Try.zeroValue73,
    t53 := Try.underlying75, a53 := Try.isAgg75, z53 := Try.sizeOf75, v53 := Try.zeroValue75, t131 := Try.underlying70,
    a131 := Try.isAgg70, z131 := Try.sizeOf70, v131 := Try.zeroValue70, t182 := Try.underlying64, a182 := Try.isAgg64,
    z182 := Try.sizeOf64, v182 := Try.zeroValue64, t183 := Try.underlying65, a183 := Try.isAgg65, z183 := Try.sizeOf65,
    v183 := Try.zeroValue65, t218 := Try.underlying77, a218 := Try.isAgg77, z218 := Try.sizeOf77,
    v218 := Try.zeroValue77, t222 := Try.underlying81, a222 := Try.isAgg81, z222 := Try.sizeOf81,
    v222 := Try.zeroValue81, t228 := Try.underlying84, a228 := Try.isAgg84, z228 := Try.sizeOf84,
    v228 := Try.zeroValue84, t229 := Try.underlying85, a229 := Try.isAgg85, z229 := Try.sizeOf85,
    v229 := Try.zeroValue85 }
theorem Try.laysNm220 : Lays2.n20 Try.prog Try.laysNm220_ren :=
  { mixed := by kernel_rfl, f20 := Try.func17.trans (by kernel_rfl),
    t0 := Try.underlying0, a0 := Try.isAgg0, z0 := Try.sizeOf0, v0 := Try.zeroValue0, t3 := Try.underlying3,
    a3 := Try.isAgg3, z3 := Try.sizeOf3, v3 := Try.zeroValue3, t4 := Try.underlying4, a4 := Try.isAgg4, z4 := Try.sizeOf4,
    v4 := Try.zeroValue4, t22 := Try.underlying24, a22 := Try.isAgg24, z22 := Try.sizeOf24, v22 := Try.zeroValue24,
    i3 := by kernel_rfl }
theorem Try.laysNm215 : Lays2.n15 Try.prog Try.laysNm215_ren :=
  { mixed := by kernel_rfl, f15 := Try.func16.trans (by kernel_rfl),
    t3 := Try.underlying3, a3 := Try.isAgg3, z3 := Try.sizeOf3, v3 := Try.zeroValue3, t4 := Try.underlying4,
    a4 := Try.isAgg4, z4 := Try.sizeOf4, v4 := Try.zeroValue4, t22 := Try.underlying24, a22 := Try.isAgg24,
    z22 := Try.sizeOf24, v22 := Try.zeroValue24, i3 := by kernel_rfl }
theorem Try.slices_Sort_int (blk off cap : Nat) (zs : List Int) (w : World) (hH : Holds (Value.int .i64) w blk off zs.toArray) (hblk : blk < w.heap.size) (hsz : zs.length < 4611686018427387904) :
    Calls Try.prog 15 #[.slice (some ⟨blk, off, none⟩) zs.length cap] w fun e w' =>
      e = .returned (.tuple #[]) ∧ ∃ n os, w' = grow (putRow (Value.int .i64) (Sort.ahead w n) blk off (zs.mergeSort fun x y => decide (x ≤ y)).toArray) os := Any.slices_Sort_int Try.lays189 blk off cap zs w hH hblk hsz
theorem Try.slices_Sort_int_none (p : Option Addr) (cap : Nat) (w : World) :
    Calls Try.prog 15 #[.slice p 0 cap] w fun e w' => e = .returned (.tuple #[]) ∧ w' = w := Any.slices_Sort_int_none Try.lays189 p cap w
theorem Try.slices_Compact_int (blk off cap : Nat) (zs : List Int) (w : World) (hH : Holds (Value.int .i64) w blk off zs.toArray) (hsz : zs.length ≤ 9223372036854775807) (hcap : zs.length ≤ cap) :
    Calls Try.prog 17 #[.slice (some ⟨blk, off, none⟩) zs.length cap] w fun e w' => e = .returned (.slice (some ⟨blk, off, none⟩) (Lib.compact zs).length cap) ∧ ∃ q, w' = putRow (Value.int .i64) (Sort.ahead w q) blk off (Lib.compact zs ++ List.replicate (zs.length - (Lib.compact zs).length) 0).toArray := Any.slices_Compact_int Try.laysNm220 blk off cap zs w hH hsz hcap
theorem Try.slices_Compact_int_empty (a : Option Addr) (cap : Nat) (w : World) :
    Calls Try.prog 17 #[.slice a 0 cap] w fun e w' => e = .returned (.slice a 0 cap) ∧ w' = w := Any.slices_Compact_int_empty Try.laysNm220 a cap w
theorem Try.slices_Clone_int (b off n c : Nat) (zs : List Int) (w : World) (hz : n ≤ zs.length) (hbig : n * 8 ≤ 140737488355328) (hc : ∀ j, j < zs.length → w.cell? ⟨b, off + j, none⟩ = some (.int .i64 (zs.getD j 0))) :
    Calls Try.prog 16 #[.slice (some ⟨b, off, none⟩) n c] w fun e w' => ∃ v', e = .returned v' ∧ w'.ownsRow w.heap.size 3 1 v' n ((zs.take n).map (Value.int .i64)) ∧ v' ≠ .slice none 0 0 ∧ Below w.heap.size w w' := Any.slices_Clone_int Try.laysNm215 b off n c zs w hz hbig hc
theorem Try.slices_Clone_int_nil (n c : Nat) (w : World) :
    Calls Try.prog 16 #[.slice none n c] w fun e w' => e = .returned (.slice none 0 0) ∧ w' = w := Any.slices_Clone_int_nil Try.laysNm215 n c w
theorem Try.slices_Clone_int_zero (a : Addr) (c : Nat) (w : World) :
    Calls Try.prog 16 #[.slice (some a) 0 c] w fun e w' => ∃ v', e = .returned v' ∧ w'.ownsRow w.heap.size 3 1 v' 0 [] ∧ v' ≠ .slice none 0 0 ∧ Below w.heap.size w w' := Any.slices_Clone_int_zero Try.laysNm215 a c w
end Go.Proofs
namespace Go.Fw
open Go Go.Proofs
noncomputable def zas(d:List Int):Option (List Int):=gd (decide (d.length<4611686018427387904)) (some (d.mergeSort fun x y=>decide (x<=y)))
noncomputable def zaC:List Int->Option (List Int):=zb0 zas
theorem zbj(d:List Int):zaC d=zas d:=congrFun (zan zas) d
noncomputable def zaT:TE:=⟨15,[.own 0],[.arr (.int .i64) .no],(.tup []),[.arr (.int .i64) .no],zaC⟩
theorem zdP:EOk Try.prog zaT:=zpN _ fun xs ys h=>by
 rw[zbj]at h
 unfold zas gd at h
 cases hd:decide (xs.length<4611686018427387904)with
 | false=>rw[hd]at h;cases h
 | true =>
  rw[hd]at h
  cases h
  exact zoN Try.call15 (fun blk off cap zs w hH hb hs=>Try.slices_Sort_int blk off cap zs w hH hb hs) (fun p cap w=>Try.slices_Sort_int_none p cap w) xs (of_decide_eq_true hd)
noncomputable def zak(d:List Int):Option (List Int):=gd (decide (d.length<=9223372036854775807)) (some (Lib.compact d))
noncomputable def zau:List Int->Option (List Int):=zb0 zak
theorem zaQ(d:List Int):zau d=zak d:=congrFun (zan zak) d
noncomputable def zaG:TE:=⟨17,[.own 0],[.arr (.int .i64) .no],(.own 1),[.dead,.arr (.int .i64) .no],zau⟩
theorem zcQ:EOk Try.prog zaG:=zkn _ fun xs ys h=>by
 rw[zaQ]at h
 unfold zak gd at h
 cases hd:decide (xs.length<=9223372036854775807)with
 | false=>rw[hd]at h;cases h
 | true =>
  rw[hd]at h
  cases h
  exact zko (zjk Try.call17 (fun blk off cap zs w hH hs hc=>Try.slices_Compact_int blk off cap zs w hH hs hc) (fun a cap w=>Try.slices_Compact_int_empty a cap w) zcN zgH xs (of_decide_eq_true hd))
section
variable {P:Program}{f:FuncId}
theorem znq{G:List Int->Option (List Int)}{sz:Nat}(hG:∀d,G d=gd (decide (d.length*sz<=140737488355328)) (some d))(h:∀xs:List Int,xs.length*sz<=140737488355328->Spec P f [.sl 1 (xs.map (zaf (.int .i64)))] [] (fun r' m'=>r'=.ms 0 1 0 xs.length/\m'=[.arr 1 (xs.map (zaf (.int .i64)))])):
  EOk P ⟨f,[.lst (.int .i64)],[],.own 0,[.arr (.int .i64) .no],G⟩:=by
 refine show TEok P _ from⟨rfl,fun d r hd=>?_⟩
 have hd':∀d r:List Int,G d=some r->d.length*sz<=140737488355328/\r=d:=fun d r hd=>by
  rw[hG]at hd
  unfold gd at hd
  cases g0:decide (d.length*sz<=140737488355328)with
  | false=>rw[g0]at hd;cases hd
  | true=>rw[g0]at hd;exact⟨of_decide_eq_true g0,(Option.some.inj hd).symm⟩
 obtain⟨h0,hr⟩:=hd' d r hd
 subst hr
 have h1:=h r h0
 have e2:endM 0 0 [.arr (.int .i64) r .no]=[.arr 1 (r.map (zaf (.int .i64)))]:=zl9 (.int .i64) r
 exact⟨h1.1,fun H F U cargs w hs hl ha=>(h1.2 H F U cargs w hs hl ha).mono fun e w' ⟨v,r',m',H',β',g1,g2,g3⟩=>⟨v,r',m',H',β',g1,⟨g2.1,g2.2.trans e2.symm⟩,g3⟩⟩
end
noncomputable def zap(d:List Int):Option (List Int):=gd (decide (d.length*8<=140737488355328)) (some d)
noncomputable def zaq:List Int->Option (List Int):=zb0 zap
theorem zaJ(d:List Int):zaq d=zap d:=congrFun (zan zap) d
noncomputable def zaA:TE:=⟨16,[.lst (.int .i64)],[],(.own 0),[.arr (.int .i64) .no],zaq⟩
theorem zcq:EOk Try.prog zaA:=znq (sz:=8) zaJ fun xs hx=>znr (av:=fun x=>AV.int .i64 x) (mk:=fun(x:Int)=>Value.int .i64 x) (ty:=Try.laysNm215_ren.t 3) (sz:=8) zqH (fun _=>rfl) (fun _=>rfl) Try.call16 (fun b o n c xs w hn hb hc=>Any.clone_ints Try.laysNm215 b o n c xs w hn hb hc) (fun n c w=>Any.slices_Clone_int_nil Try.laysNm215 n c w) (fun a c w=>Any.slices_Clone_int_zero Try.laysNm215 a c w) xs hx (by decide)
end Go.Fw
namespace Go.Fw
noncomputable section
open Go
set_option maxRecDepth 1000000
set_option linter.unusedVariables false
def zbq(d:List (List UInt8)×Int):Option Int:=gd (zbg (d.2-(d.1.length:Int))) (zad (decide (d.2-(d.1.length:Int)<0)) (some (-1)) (zaa (za4 (fun(s:Int×Int)=>zad (decide (s.2<(d.1.length:Int))) (gd (decide (0<=s.2)) (zaa d.1[s.2.toNat]? fun x=>gd (zbg (s.1-(x.length:Int))) (zad (decide (s.1-(x.length:Int)<0)) (some (Sum.inr (Sum.inr (-1)))) (gd (zbg (s.2+1)) (some (Sum.inl (s.1-(x.length:Int),s.2+1))))))) (some (Sum.inr (Sum.inl (s.1,s.2))))) (d.2-(d.1.length:Int),0)) fun(x:Int×Int⊕Int)=>caseS x (fun d=>some d.1) fun r=>some r))
def za1:List (List UInt8)×Int->Option Int:=zb0 zbq
theorem zdq(d:List (List UInt8)×Int):za1 d=zbq d:=congrFun (zan zbq) d
def zc7:TE:=⟨22,[.lst .str,.int .i64],[],(.int .i64),[],za1⟩
theorem zi6(d:List (List UInt8)×Int):zbe [] ztM c22 [.t 4] [.lst .str,.int .i64] [] (.int .i64) [] d=za1 d:=Eq.trans (b:=zbq d) (by kernel_rfl) (zdq d).symm
mutual
def zbc:Nat->Sel×Int->Option Int|0,_=>none|n+1,d=>gd (zbg (d.2-(↑(List.length (Sel.as d.1)):Int))) (zad (decide (d.2-(↑(List.length (Sel.as d.1)):Int)<0)) (some (-1)) (gd (zbg (d.2-(↑(List.length (Sel.as d.1)):Int)-(↑(List.length (Sel.name d.1)):Int))) (zad (decide (d.2-(↑(List.length (Sel.as d.1)):Int)-(↑(List.length (Sel.name d.1)):Int)<0)) (some (-1)) (zaa (zaM n (Sel.kids d.1,d.2-(↑(List.length (Sel.as d.1)):Int)-(↑(List.length (Sel.name d.1)):Int))) fun x=>zad (decide (x<0)) (some (-1)) (some x)))))
def zaM:Nat->List Sel×Int->Option Int|0,_=>none|n+1,d=>gd (zbg (d.2-(d.1.length:Int))) (zad (decide (d.2-(d.1.length:Int)<0)) (some (-1)) (zaa (za4 (fun(s:Int×Int)=>zad (decide (s.2<(d.1.length:Int))) (gd (decide (0<=s.2)) (zaa d.1[s.2.toNat]? fun x=>zaa (zbc n (x,s.1)) fun x=>zad (decide (x<0)) (some (Sum.inr (Sum.inr (-1)))) (gd (zbg (s.2+1)) (some (Sum.inl (x,s.2+1)))))) (some (Sum.inr (Sum.inl (s.1,s.2))))) (d.2-(d.1.length:Int),0)) fun(x:Int×Int⊕Int)=>caseS x (fun d=>some d.1) fun r=>some r))
end
def zgJ(n:Nat):TE:=⟨32,[.st .Sel,.int .i64],[],(.int .i64),[],zbc n⟩
def zfA:List Sel×Int->Option Int:=zo1 zaM
def zfI(n:Nat):TE:=⟨23,[.lst (.nm .Sel),.int .i64],[],(.int .i64),[],zaM n⟩
def zfY:TE:=⟨23,[.lst (.nm .Sel),.int .i64],[],(.int .i64),[],zfA⟩
theorem zoX(n:Nat)(d:Sel×Int):zbe [zfI n] ztU c32 [.t 4] [.st .Sel,.int .i64] [] (.int .i64) [] d=zbc (n+1) d:=by kernel_rfl
theorem zm8(n:Nat)(d:List Sel×Int):zbe [zgJ n] ztN c23 [.t 4] [.lst (.nm .Sel),.int .i64] [] (.int .i64) [] d=zaM (n+1) d:=by kernel_rfl
def zcD(d:List Int×Int):Option Int:=gd (zbg (d.2-(d.1.length:Int))) (zad (decide (d.2-(d.1.length:Int)<0)) (some (-1)) (some (d.2-(d.1.length:Int))))
def zcI:List Int×Int->Option Int:=zb0 zcD
theorem ze0(d:List Int×Int):zcI d=zcD d:=congrFun (zan zcD) d
def zfH:TE:=⟨24,[.lst (.int .i64),.int .i64],[],(.int .i64),[],zcI⟩
theorem zm7(d:List Int×Int):zbe [] ztO c24 [.t 4] [.lst (.int .i64),.int .i64] [] (.int .i64) [] d=zcI d:=Eq.trans (b:=zcD d) (by kernel_rfl) (ze0 d).symm
def zcE(d:Stp×Int):Option Int:=zaa (za1 (d.1.way,d.2)) fun x=>zad (decide (x<0)) (some (-1)) (gd (zbg (x-(d.1.type.length:Int))) (zad (decide (x-(d.1.type.length:Int)<0)) (some (-1)) (zaa (zfA (d.1.sels,x-(d.1.type.length:Int))) fun x=>zad (decide (x<0)) (some (-1)) (zaa (zcI (d.1.after,x)) fun x=>zad (decide (x<0)) (some (-1)) (zaa (za1 (d.1.brings,x)) fun x=>zad (decide (x<0)) (some (-1)) (some x))))))
def zb2:Stp×Int->Option Int:=zb0 zcE
theorem ze1(d:Stp×Int):zb2 d=zcE d:=congrFun (zan zcE) d
def zfJ:TE:=⟨13,[.st .Stp,.int .i64],[],(.int .i64),[],zb2⟩
theorem zm9(d:Stp×Int):zbe [zc7,zfY,zfH] ztG c13 [.t 4] [.st .Stp,.int .i64] [] (.int .i64) [] d=zb2 d:=Eq.trans (b:=zcE d) (by kernel_rfl) (ze1 d).symm
def zb7(d:List Stp×Int):Option Int:=gd (zbg (d.2-(d.1.length:Int))) (zad (decide (d.2-(d.1.length:Int)<0)) (some (-1)) (zaa (za4 (fun(s:Int×Int)=>zad (decide (s.2<(d.1.length:Int))) (gd (decide (0<=s.2)) (zaa d.1[s.2.toNat]? fun x=>zaa (zb2 (x,s.1)) fun x=>zad (decide (x<0)) (some (Sum.inr (Sum.inr (-1)))) (gd (zbg (s.2+1)) (some (Sum.inl (x,s.2+1)))))) (some (Sum.inr (Sum.inl (s.1,s.2))))) (d.2-(d.1.length:Int),0)) fun(x:Int×Int⊕Int)=>caseS x (fun d=>some d.1) fun r=>some r))
def zca:List Stp×Int->Option Int:=zb0 zb7
theorem zew(d:List Stp×Int):zca d=zb7 d:=congrFun (zan zb7) d
def zeH:TE:=⟨4,[.lst (.nm .Stp),.int .i64],[],(.int .i64),[],zca⟩
theorem zlf(d:List Stp×Int):zbe [zfJ] cy4 c4 [.t 4] [.lst (.nm .Stp),.int .i64] [] (.int .i64) [] d=zca d:=Eq.trans (b:=zb7 d) (by kernel_rfl) (zew d).symm
def zbr(d:List (List UInt8)):Option (List (List UInt8)):=gd (decide (0<=(d.length:Int))&&decide ((d.length:Int)<=(↑LIM:Int))) (zaa (za4 (fun(s:Int×List (List UInt8))=>zad (decide (s.1<(d.length:Int))) (gd (decide (0<=s.1)) (zaa d[s.1.toNat]? fun x=>gd (decide (0<=s.1)&&decide (s.1<(s.2.length:Int))) (zaa s.2[s.1.toNat]? fun x_1=>gd (zbg (s.1+1)) (some (Sum.inl (s.1+1,List.set s.2 (s.1.toNat) x)))))) (some (Sum.inr (s.1,s.2)))) (0,List.replicate (Int.toNat (d.length:Int)) [])) fun(x:Int×List (List UInt8))=>some x.2)
def za2:List (List UInt8)->Option (List (List UInt8)):=zb0 zbr
theorem zdr(d:List (List UInt8)):za2 d=zbr d:=congrFun (zan zbr) d
def zc8:TE:=⟨25,[.lst .str],[],(.own 0),[.arr .str .no],za2⟩
theorem zi7(d:List (List UInt8)):zbe [] ztP c25 [.t 2] [.lst .str] [] (.own 0) [.arr .str .no] d=za2 d:=Eq.trans (b:=zbr d) (by kernel_rfl) (zdr d).symm
mutual
def zbd:Nat->Sel->Option ((List UInt8×List UInt8×Bool×Int)×List Sel)|0,_=>none|n+1,d=>zaa (zaN n (Sel.kids d)) fun x=>some ((Sel.as d,Sel.name d,Sel.one d,Sel.id d),x)
def zaN:Nat->List Sel->Option (List Sel)|0,_=>none|n+1,d=>gd (decide (0<=(d.length:Int))&&decide ((d.length:Int)<=(↑LIM:Int))) (zaa (za4 (fun(s:Int×List Sel)=>zad (decide (s.1<(d.length:Int))) (gd (decide (0<=s.1)) (zaa d[s.1.toNat]? fun x=>zaa (zbd n x) fun(x:(List UInt8×List UInt8×Bool×Int)×List Sel)=>gd (decide (0<=s.1)&&decide (s.1<(s.2.length:Int))) (zaa s.2[s.1.toNat]? fun x_1=>gd (zbg (s.1+1)) (some (Sum.inl (s.1+1,List.set s.2 (s.1.toNat) (Sel.mk x.1.1 x.1.2.1 x.1.2.2.1 x.1.2.2.2 x.2))))))) (some (Sum.inr (s.1,s.2)))) (0,List.replicate (Int.toNat (d.length:Int)) (Sel.mk [] [] false 0 []))) fun(x:Int×List Sel)=>some x.2)
end
def zgK(n:Nat):TE:=⟨33,[.st .Sel],[],(.agg [.str,.str,.bool,.int .i64,.own 0]),[.arr (.nm .Sel) .all],zbd n⟩
def zfB:List Sel->Option (List Sel):=zo1 zaN
def zfL(n:Nat):TE:=⟨26,[.lst (.nm .Sel)],[],(.own 0),[.arr (.nm .Sel) .all],zaN n⟩
def zfZ:TE:=⟨26,[.lst (.nm .Sel)],[],(.own 0),[.arr (.nm .Sel) .all],zfB⟩
theorem zoY(n:Nat)(d:Sel):zbe [zfL n] ztV c33 [.c 2 (some 5)] [.st .Sel] [] (.agg [.str,.str,.bool,.int .i64,.own 0]) [.arr (.nm .Sel) .all] d=zbd (n+1) d:=by kernel_rfl
theorem znb(n:Nat)(d:List Sel):zbe [zgK n] ztQ c26 [.t 2] [.lst (.nm .Sel)] [] (.own 0) [.arr (.nm .Sel) .all] d=zaN (n+1) d:=by kernel_rfl
def zcF(d:List Int):Option (List Int):=gd (decide (0<=(d.length:Int))&&decide ((d.length:Int)<=(↑LIM:Int))) (zaa (za4 (fun(s:Int×List Int)=>zad (decide (s.1<(d.length:Int))) (gd (decide (0<=s.1)) (zaa d[s.1.toNat]? fun x=>gd (decide (0<=s.1)&&decide (s.1<(s.2.length:Int))) (zaa s.2[s.1.toNat]? fun x_1=>gd (zbg (s.1+1)) (some (Sum.inl (s.1+1,List.set s.2 (s.1.toNat) x)))))) (some (Sum.inr (s.1,s.2)))) (0,List.replicate (Int.toNat (d.length:Int)) 0)) fun(x:Int×List Int)=>some x.2)
def zcJ:List Int->Option (List Int):=zb0 zcF
theorem ze2(d:List Int):zcJ d=zcF d:=congrFun (zan zcF) d
def zfK:TE:=⟨27,[.lst (.int .i64)],[],(.own 0),[.arr (.int .i64) .no],zcJ⟩
theorem zna(d:List Int):zbe [] ztR c27 [.t 2] [.lst (.int .i64)] [] (.own 0) [.arr (.int .i64) .no] d=zcJ d:=Eq.trans (b:=zcF d) (by kernel_rfl) (ze2 d).symm
def zcG(d:Stp):Option ((Int×List UInt8)×List (List UInt8)×List Sel×List Int×List (List UInt8)):=zaa (za2 d.way) fun x=>zaa (zfB d.sels) fun x_1=>zaa (zcJ d.after) fun x_2=>zaa (za2 d.brings) fun x_3=>some ((d.part,d.type),x,x_1,x_2,x_3)
def zb3:Stp->Option ((Int×List UInt8)×List (List UInt8)×List Sel×List Int×List (List UInt8)):=zb0 zcG
theorem ze3(d:Stp):zb3 d=zcG d:=congrFun (zan zcG) d
def zfM:TE:=⟨14,[.st .Stp],[],(.agg [.int .i64,.own 0,.str,.own 1,.own 2,.own 3]),[.arr .str .no,.arr (.nm .Sel) .all,.arr (.int .i64) .no,.arr .str .no],zb3⟩
theorem znc(d:Stp):zbe [zc8,zfZ,zfK] ztH c14 [.c 2 (some 6)] [.st .Stp] [] (.agg [.int .i64,.own 0,.str,.own 1,.own 2,.own 3]) [.arr .str .no,.arr (.nm .Sel) .all,.arr (.int .i64) .no,.arr .str .no] d=zb3 d:=Eq.trans (b:=zcG d) (by kernel_rfl) (ze3 d).symm
def zb8(d:List Stp):Option (List Stp):=gd (decide (0<=(d.length:Int))&&decide ((d.length:Int)<=(↑LIM:Int))) (zaa (za4 (fun(s:Int×List Stp)=>zad (decide (s.1<(d.length:Int))) (gd (decide (0<=s.1)) (zaa d[s.1.toNat]? fun x=>zaa (zb3 x) fun(x:(Int×List UInt8)×List (List UInt8)×List Sel×List Int×List (List UInt8))=>gd (decide (0<=s.1)&&decide (s.1<(s.2.length:Int))) (zaa s.2[s.1.toNat]? fun x_1=>gd (zbg (s.1+1)) (some (Sum.inl (s.1+1,List.set s.2 (s.1.toNat) {part:=x.1.1,way:=x.2.1,type:=x.1.2,sels:=x.2.2.1,after:=x.2.2.2.1,brings:=x.2.2.2.2:Stp})))))) (some (Sum.inr (s.1,s.2)))) (0,List.replicate (Int.toNat (d.length:Int)) {part:=0,way:=[],type:=[],sels:=[],after:=[],brings:=[]:Stp})) fun(x:Int×List Stp)=>some x.2)
def zaR:List Stp->Option (List Stp):=zb0 zb8
theorem zex(d:List Stp):zaR d=zb8 d:=congrFun (zan zb8) d
def zeI:TE:=⟨6,[.lst (.nm .Stp)],[],(.own 0),[.arr (.nm .Stp) (.at [(1,.no),(3,.all),(4,.no),(5,.no)])],zaR⟩
theorem zlg(d:List Stp):zbe [zfM] cy6 c6 [.t 2] [.lst (.nm .Stp)] [] (.own 0) [.arr (.nm .Stp) (.at [(1,.no),(3,.all),(4,.no),(5,.no)])] d=zaR d:=Eq.trans (b:=zb8 d) (by kernel_rfl) (zex d).symm
def zbI(d:List Stp):Option (List Int):=zaa (za4 (fun(s:Int×List Int)=>zad (decide (s.1<(d.length:Int))) (zaa (za4 (fun(s_1:Int)=>zaa (zad (decide (s_1<(s.2.length:Int))) (gd (decide (0<=s_1)&&decide (s_1<(s.2.length:Int))) (zaa s.2[s_1.toNat]? fun x=>gd (decide (0<=s.1)) (zaa d[s.1.toNat]? fun x_1=>some (decide (x<x_1.part))))) (some false)) fun x=>zad x (gd (zbg (s_1+1)) (some (Sum.inl (s_1+1)))) (some (Sum.inr s_1))) 0) fun x=>zaa (zad (x==(s.2.length:Int)) (some true) (gd (decide (0<=x)&&decide (x<(s.2.length:Int))) (zaa s.2[x.toNat]? fun x=>gd (decide (0<=s.1)) (zaa d[s.1.toNat]? fun x_1=>some (x !=x_1.part))))) fun x_1=>zaa (zad x_1 (gd (decide (0<=0)&&decide (0<=x)&&decide (x<=(s.2.length:Int))) (gd (decide (List.length (List.take (x.toNat-Int.toNat 0) (List.drop 0 s.2))<=LIM)) (gd (decide (0<=s.1)) (zaa d[s.1.toNat]? fun x_2=>gd (decide (List.length (List.take (x.toNat-Int.toNat 0) (List.drop 0 s.2))+List.length [x_2.part]<=LIM)) (gd (decide (0<=x)&&decide (x<=(s.2.length:Int))&&decide ((s.2.length:Int)<=(s.2.length:Int))) (gd (decide (List.length (List.take (x.toNat-Int.toNat 0) (List.drop 0 s.2)++[x_2.part])+List.length (List.take (Int.toNat (s.2.length:Int)-x.toNat) (List.drop (x.toNat) s.2))<=LIM)) (some (List.take (x.toNat-Int.toNat 0) (List.drop 0 s.2)++[x_2.part]++List.take (Int.toNat (s.2.length:Int)-x.toNat) (List.drop (x.toNat) s.2))))))))) (some s.2)) fun x=>gd (zbg (s.1+1)) (some (Sum.inl (s.1+1,x)))) (some (Sum.inr (s.1,s.2)))) (0,[])) fun(x:Int×List Int)=>some x.2
def zbi:List Stp->Option (List Int):=zb0 zbI
theorem zdD(d:List Stp):zbi d=zbI d:=congrFun (zan zbI) d
def zdK:TE:=⟨5,[.lst (.nm .Stp)],[],(.own 0),[.arr (.int .i64) .no],zbi⟩
theorem zj7(d:List Stp):zbe [] cy5 c5 [.t 2] [.lst (.nm .Stp)] [] (.own 0) [.arr (.int .i64) .no] d=zbi d:=Eq.trans (b:=zbI d) (by kernel_rfl) (zdD d).symm
def zba(d:List Stp):Option (List Int):=zaa (za4 (fun(s:Int×List Int)=>zad (decide (s.1<(d.length:Int))) (gd (decide (0<=s.1)) (zaa d[s.1.toNat]? fun x=>gd (decide (List.length s.2+List.length [x.part]<=LIM)) (gd (zbg (s.1+1)) (some (Sum.inl (s.1+1,s.2++[x.part])))))) (some (Sum.inr (s.1,s.2)))) (0,[])) fun(x:Int×List Int)=>zaa (zaC x.2) fun x_1=>gd (decide (List.length x_1=List.length x.2)) (zaa (zau x_1) fun x=>zaa (zaq x) fun x=>some x)
def zaE:List Stp->Option (List Int):=zb0 zba
theorem zcH(d:List Stp):zaE d=zba d:=congrFun (zan zba) d
def zcz:TE:=⟨7,[.lst (.nm .Stp)],[],(.own 0),[.arr (.int .i64) .no],zaE⟩
theorem zhJ(d:List Stp):zbe [zaT,zaG,zaA] cy7 c7 [.t 2] [.lst (.nm .Stp)] [] (.own 0) [.arr (.int .i64) .no] d=zaE d:=Eq.trans (b:=zba d) (by kernel_rfl) (zcH d).symm
def zcB(d:List Int×List Int):Option Bool:=zad ((d.1.length:Int) !=(d.2.length:Int)) (some false) (zaa (za4 (fun(s:Int)=>zad (decide (s<(d.1.length:Int))) (gd (decide (0<=s)) (zaa d.1[s.toNat]? fun x=>gd (decide (0<=s)) (zaa d.2[s.toNat]? fun x_1=>zad (x !=x_1) (some (Sum.inr (Sum.inr false))) (gd (zbg (s+1)) (some (Sum.inl (s+1))))))) (some (Sum.inr (Sum.inl s)))) 0) fun(x:Int⊕Bool)=>caseS x (fun d=>some true) fun r=>some r)
def zaZ:List Int×List Int->Option Bool:=zb0 zcB
theorem zeY(d:List Int×List Int):zaZ d=zcB d:=congrFun (zan zcB) d
def zcO:TE:=⟨8,[.lst (.int .i64),.lst (.int .i64)],[],(.bool),[],zaZ⟩
theorem zm4(d:List Int×List Int):zbe [] cy8 c8 [.t 4] [.lst (.int .i64),.lst (.int .i64)] [] (.bool) [] d=zaZ d:=Eq.trans (b:=zcB d) (by kernel_rfl) (zeY d).symm
def zbo(d:List (List UInt8)×List (List UInt8)):Option Bool:=zad ((d.1.length:Int) !=(d.2.length:Int)) (some false) (zaa (za4 (fun(s:Int)=>zad (decide (s<(d.1.length:Int))) (gd (decide (0<=s)) (zaa d.1[s.toNat]? fun x=>gd (decide (0<=s)) (zaa d.2[s.toNat]? fun x_1=>zad (x !=x_1) (some (Sum.inr (Sum.inr false))) (gd (zbg (s+1)) (some (Sum.inl (s+1))))))) (some (Sum.inr (Sum.inl s)))) 0) fun(x:Int⊕Bool)=>caseS x (fun d=>some true) fun r=>some r)
def za0:List (List UInt8)×List (List UInt8)->Option Bool:=zb0 zbo
theorem zdo(d:List (List UInt8)×List (List UInt8)):za0 d=zbo d:=congrFun (zan zbo) d
def zc5:TE:=⟨30,[.lst .str,.lst .str],[],(.bool),[],za0⟩
theorem zi4(d:List (List UInt8)×List (List UInt8)):zbe [] ztS c30 [.t 4] [.lst .str,.lst .str] [] (.bool) [] d=za0 d:=Eq.trans (b:=zbo d) (by kernel_rfl) (zdo d).symm
mutual
def zbb:Nat->Sel×Sel->Option Bool|0,_=>none|n+1,d=>zad (Sel.as d.1 !=Sel.as d.2) (some false) (zad (Sel.name d.1 !=Sel.name d.2) (some false) (zad (Sel.one d.1 !=Sel.one d.2) (some false) (zad (Sel.id d.1 !=Sel.id d.2) (some false) (zaa (zaL n (Sel.kids d.1,Sel.kids d.2)) fun x=>zad (!x) (some false) (some true)))))
def zaL:Nat->List Sel×List Sel->Option Bool|0,_=>none|n+1,d=>zad ((d.1.length:Int) !=(d.2.length:Int)) (some false) (zaa (za4 (fun(s:Int)=>zad (decide (s<(d.1.length:Int))) (gd (decide (0<=s)) (zaa d.1[s.toNat]? fun x=>gd (decide (0<=s)) (zaa d.2[s.toNat]? fun x_1=>zaa (zbb n (x,x_1)) fun x=>zad (!x) (some (Sum.inr (Sum.inr false))) (gd (zbg (s+1)) (some (Sum.inl (s+1))))))) (some (Sum.inr (Sum.inl s)))) 0) fun(x:Int⊕Bool)=>caseS x (fun d=>some true) fun r=>some r)
end
def zgI(n:Nat):TE:=⟨45,[.st .Sel,.st .Sel],[],(.bool),[],zbb n⟩
def zfz:List Sel×List Sel->Option Bool:=zo1 zaL
def zfF(n:Nat):TE:=⟨31,[.lst (.nm .Sel),.lst (.nm .Sel)],[],(.bool),[],zaL n⟩
def zfX:TE:=⟨31,[.lst (.nm .Sel),.lst (.nm .Sel)],[],(.bool),[],zfz⟩
theorem zoW(n:Nat)(d:Sel×Sel):zbe [zfF n] ztW c45 [.t 4] [.st .Sel,.st .Sel] [] (.bool) [] d=zbb (n+1) d:=by kernel_rfl
theorem zm5(n:Nat)(d:List Sel×List Sel):zbe [zgI n] ztT c31 [.t 4] [.lst (.nm .Sel),.lst (.nm .Sel)] [] (.bool) [] d=zaL (n+1) d:=by kernel_rfl
def zcC(d:Stp×Stp):Option Bool:=zad (d.1.part !=d.2.part) (some false) (zaa (za0 (d.1.way,d.2.way)) fun x=>zad (!x) (some false) (zad (d.1.type !=d.2.type) (some false) (zaa (zfz (d.1.sels,d.2.sels)) fun x=>zad (!x) (some false) (zaa (zaZ (d.1.after,d.2.after)) fun x=>zad (!x) (some false) (zaa (za0 (d.1.brings,d.2.brings)) fun x=>zad (!x) (some false) (some true))))))
def zb1:Stp×Stp->Option Bool:=zb0 zcC
theorem zeZ(d:Stp×Stp):zb1 d=zcC d:=congrFun (zan zcC) d
def zfG:TE:=⟨18,[.st .Stp,.st .Stp],[],(.bool),[],zb1⟩
theorem zm6(d:Stp×Stp):zbe [zc5,zfX,zcO] ztI c18 [.t 4] [.st .Stp,.st .Stp] [] (.bool) [] d=zb1 d:=Eq.trans (b:=zcC d) (by kernel_rfl) (zeZ d).symm
def zb6(d:List Stp×List Stp):Option Bool:=zad ((d.1.length:Int) !=(d.2.length:Int)) (some false) (zaa (za4 (fun(s:Int)=>zad (decide (s<(d.1.length:Int))) (gd (decide (0<=s)) (zaa d.1[s.toNat]? fun x=>gd (decide (0<=s)) (zaa d.2[s.toNat]? fun x_1=>zaa (zb1 (x,x_1)) fun x=>zad (!x) (some (Sum.inr (Sum.inr false))) (gd (zbg (s+1)) (some (Sum.inl (s+1))))))) (some (Sum.inr (Sum.inl s)))) 0) fun(x:Int⊕Bool)=>caseS x (fun d=>some true) fun r=>some r)
def zb9:List Stp×List Stp->Option Bool:=zb0 zb6
theorem zev(d:List Stp×List Stp):zb9 d=zb6 d:=congrFun (zan zb6) d
def zeG:TE:=⟨9,[.lst (.nm .Stp),.lst (.nm .Stp)],[],(.bool),[],zb9⟩
theorem zle(d:List Stp×List Stp):zbe [zfG] cy9 c9 [.t 4] [.lst (.nm .Stp),.lst (.nm .Stp)] [] (.bool) [] d=zb9 d:=Eq.trans (b:=zb6 d) (by kernel_rfl) (zev d).symm
def zbL(d:Int):Option (List UInt8):=zad (decide (d<=0)) (some [109,48]) (zaa (za4 (fun(s:Int×List UInt8)=>zad (decide (s.1>0)) (gd (zbg (48+Int.tmod s.1 10)) (gd (decide (List.length [IntKind.wrap IntKind.u8 (48+Int.tmod s.1 10)]<=BIG)) (gd (decide (List.length (List.map zqG [IntKind.wrap IntKind.u8 (48+Int.tmod s.1 10)])+List.length s.2<=BIG)) (gd (zbg (Int.tdiv s.1 10)) (some (Sum.inl (Int.tdiv s.1 10,List.map zqG [IntKind.wrap IntKind.u8 (48+Int.tmod s.1 10)]++s.2))))))) (some (Sum.inr (s.1,s.2)))) (d,[])) fun(x:Int×List UInt8)=>gd (decide (List.length [109]+List.length x.2<=BIG)) (some ([109]++x.2)))
def zay:Int->Option (List UInt8):=zb0 zbL
theorem zdG(d:Int):zay d=zbL d:=congrFun (zan zbL) d
def zaU:TE:=⟨20,[.int .i64],[],(.str),[],zay⟩
theorem zkb(d:Int):zbe [] ztK c20 [.t 2] [.int .i64] [] (.str) [] d=zay d:=Eq.trans (b:=zbL d) (by kernel_rfl) (zdG d).symm
def zaP(d:Int×List (List UInt8)):Option (Int×List (List UInt8)):=zaa (za4 (fun(s:Int×Int×List (List UInt8))=>zad (decide (s.2.1<(s.2.2.length:Int))) (zaa (zay s.1) fun x=>gd (decide (0<=s.2.1)&&decide (s.2.1<(s.2.2.length:Int))) (zaa s.2.2[s.2.1.toNat]? fun x_1=>gd (zbg (s.1+1)) (gd (zbg (s.2.1+1)) (some (Sum.inl (s.1+1,s.2.1+1,List.set s.2.2 (s.2.1.toNat) x)))))) (some (Sum.inr (s.1,s.2.1,s.2.2)))) (d.1,0,d.2)) fun(x:Int×Int×List (List UInt8))=>some (x.1,x.2.2)
def zaF:Int×List (List UInt8)->Option (Int×List (List UInt8)):=zb0 zaP
theorem zcr(d:Int×List (List UInt8)):zaF d=zaP d:=congrFun (zan zaP) d
def zcc:TE:=⟨19,[.own 0,.int .i64],[.arr .str .no],(.int .i64),[.arr .str .no],zaF⟩
theorem zhx(d:Int×List (List UInt8)):zbe [zaU] ztJ c19 [.t 4] [.own 0,.int .i64] [.arr .str .no] (.int .i64) [.arr .str .no] d=zaF d:=Eq.trans (b:=zaP d) (by kernel_rfl) (zcr d).symm
def zax:Nat->Int×List Sel->Option (Int×List Sel)|0,_=>none|n+1,d=>zaa (za4 (fun(s:Int×Int×List Sel)=>zad (decide (s.2.1<(s.2.2.length:Int))) (zaa (zay s.1) fun x=>gd (decide (0<=s.2.1)&&decide (s.2.1<(s.2.2.length:Int))) (zaa s.2.2[s.2.1.toNat]? fun x_1=>gd (zbg (s.1+1)) (zaa (zay (s.1+1)) fun x_2=>gd (decide (0<=s.2.1)&&decide (s.2.1<(↑(List.length (List.set s.2.2 (s.2.1.toNat) (Sel.mk x (Sel.name x_1) (Sel.one x_1) (Sel.id x_1) (Sel.kids x_1)))):Int))) (zaa (List.set s.2.2 (s.2.1.toNat) (Sel.mk x (Sel.name x_1) (Sel.one x_1) (Sel.id x_1) (Sel.kids x_1)))[s.2.1.toNat]? fun x_3=>gd (zbg (s.1+1+1)) (gd (decide (0<=s.2.1)&&decide (s.2.1<(↑(List.length (List.set (List.set s.2.2 (s.2.1.toNat) (Sel.mk x (Sel.name x_1) (Sel.one x_1) (Sel.id x_1) (Sel.kids x_1))) (s.2.1.toNat) (Sel.mk (Sel.as x_3) x_2 (Sel.one x_3) (Sel.id x_3) (Sel.kids x_3)))):Int))) (zaa (List.set (List.set s.2.2 (s.2.1.toNat) (Sel.mk x (Sel.name x_1) (Sel.one x_1) (Sel.id x_1) (Sel.kids x_1))) (s.2.1.toNat) (Sel.mk (Sel.as x_3) x_2 (Sel.one x_3) (Sel.id x_3) (Sel.kids x_3)))[s.2.1.toNat]? fun x_4=>gd (zbg (s.1+1+1+1)) (gd (decide (0<=s.2.1)&&decide (s.2.1<(↑(List.length (List.set (List.set (List.set s.2.2 (s.2.1.toNat) (Sel.mk x (Sel.name x_1) (Sel.one x_1) (Sel.id x_1) (Sel.kids x_1))) (s.2.1.toNat) (Sel.mk (Sel.as x_3) x_2 (Sel.one x_3) (Sel.id x_3) (Sel.kids x_3))) (s.2.1.toNat) (Sel.mk (Sel.as x_4) (Sel.name x_4) (Int.tmod (s.1+1+1) 3==0) (Sel.id x_4) (Sel.kids x_4)))):Int))) (zaa (List.set (List.set (List.set s.2.2 (s.2.1.toNat) (Sel.mk x (Sel.name x_1) (Sel.one x_1) (Sel.id x_1) (Sel.kids x_1))) (s.2.1.toNat) (Sel.mk (Sel.as x_3) x_2 (Sel.one x_3) (Sel.id x_3) (Sel.kids x_3))) (s.2.1.toNat) (Sel.mk (Sel.as x_4) (Sel.name x_4) (Int.tmod (s.1+1+1) 3==0) (Sel.id x_4) (Sel.kids x_4)))[s.2.1.toNat]? fun x_5=>gd (zbg (s.1+1+1+1+1)) (gd (decide (0<=s.2.1)&&decide (s.2.1<(↑(List.length (List.set (List.set (List.set (List.set s.2.2 (s.2.1.toNat) (Sel.mk x (Sel.name x_1) (Sel.one x_1) (Sel.id x_1) (Sel.kids x_1))) (s.2.1.toNat) (Sel.mk (Sel.as x_3) x_2 (Sel.one x_3) (Sel.id x_3) (Sel.kids x_3))) (s.2.1.toNat) (Sel.mk (Sel.as x_4) (Sel.name x_4) (Int.tmod (s.1+1+1) 3==0) (Sel.id x_4) (Sel.kids x_4))) (s.2.1.toNat) (Sel.mk (Sel.as x_5) (Sel.name x_5) (Sel.one x_5) (s.1+1+1+1) (Sel.kids x_5)))):Int))) (zaa (List.set (List.set (List.set (List.set s.2.2 (s.2.1.toNat) (Sel.mk x (Sel.name x_1) (Sel.one x_1) (Sel.id x_1) (Sel.kids x_1))) (s.2.1.toNat) (Sel.mk (Sel.as x_3) x_2 (Sel.one x_3) (Sel.id x_3) (Sel.kids x_3))) (s.2.1.toNat) (Sel.mk (Sel.as x_4) (Sel.name x_4) (Int.tmod (s.1+1+1) 3==0) (Sel.id x_4) (Sel.kids x_4))) (s.2.1.toNat) (Sel.mk (Sel.as x_5) (Sel.name x_5) (Sel.one x_5) (s.1+1+1+1) (Sel.kids x_5)))[s.2.1.toNat]? fun x_6=>zaa (zax n (s.1+1+1+1+1,Sel.kids x_6)) fun(x_7:Int×List Sel)=>gd (decide (List.length x_7.2=List.length (Sel.kids x_6))) (gd (zbg (s.2.1+1)) (some (Sum.inl (x_7.1,s.2.1+1,List.set (List.set (List.set (List.set (List.set s.2.2 (s.2.1.toNat) (Sel.mk x (Sel.name x_1) (Sel.one x_1) (Sel.id x_1) (Sel.kids x_1))) (s.2.1.toNat) (Sel.mk (Sel.as x_3) x_2 (Sel.one x_3) (Sel.id x_3) (Sel.kids x_3))) (s.2.1.toNat) (Sel.mk (Sel.as x_4) (Sel.name x_4) (Int.tmod (s.1+1+1) 3==0) (Sel.id x_4) (Sel.kids x_4))) (s.2.1.toNat) (Sel.mk (Sel.as x_5) (Sel.name x_5) (Sel.one x_5) (s.1+1+1+1) (Sel.kids x_5))) (s.2.1.toNat) (Sel.mk (Sel.as x_6) (Sel.name x_6) (Sel.one x_6) (Sel.id x_6) x_7.2))))))))))))))) (some (Sum.inr (s.1,s.2.1,s.2.2)))) (d.1,0,d.2)) fun(x:Int×Int×List Sel)=>some (x.1,x.2.2)
def zdI:Int×List Sel->Option (Int×List Sel):=zo1 zax
def zdM(n:Nat):TE:=⟨21,[.own 0,.int .i64],[.arr (.nm .Sel) .all],(.int .i64),[.arr (.nm .Sel) .all],zax n⟩
def zdS:TE:=⟨21,[.own 0,.int .i64],[.arr (.nm .Sel) .all],(.int .i64),[.arr (.nm .Sel) .all],zdI⟩
theorem zka(n:Nat)(d:Int×List Sel):zbe [zaU,zdM n] ztL c21 [.t 4] [.own 0,.int .i64] [.arr (.nm .Sel) .all] (.int .i64) [.arr (.nm .Sel) .all] d=zax (n+1) d:=by kernel_rfl
def zbK(d:Int×List Int):Option (Int×List Int):=zaa (za4 (fun(s:Int×Int×List Int)=>zad (decide (s.2.1<(s.2.2.length:Int))) (gd (decide (0<=s.2.1)&&decide (s.2.1<(s.2.2.length:Int))) (zaa s.2.2[s.2.1.toNat]? fun x=>gd (zbg (s.1+1)) (gd (zbg (s.2.1+1)) (some (Sum.inl (s.1+1,s.2.1+1,List.set s.2.2 (s.2.1.toNat) s.1)))))) (some (Sum.inr (s.1,s.2.1,s.2.2)))) (d.1,0,d.2)) fun(x:Int×Int×List Int)=>some (x.1,x.2.2)
def zbm:Int×List Int->Option (Int×List Int):=zb0 zbK
theorem zdF(d:Int×List Int):zbm d=zbK d:=congrFun (zan zbK) d
def zbN:TE:=⟨11,[.own 0,.int .i64],[.arr (.int .i64) .no],(.int .i64),[.arr (.int .i64) .no],zbm⟩
theorem zj9(d:Int×List Int):zbe [] ztE c11 [.t 4] [.own 0,.int .i64] [.arr (.int .i64) .no] (.int .i64) [.arr (.int .i64) .no] d=zbm d:=Eq.trans (b:=zbK d) (by kernel_rfl) (zdF d).symm
def zbp(d:Int×List Stp):Option (Int×List Stp):=zaa (za4 (fun(s:Int×Int×List Stp)=>zad (decide (s.2.1<(s.2.2.length:Int))) (gd (decide (0<=s.2.1)&&decide (s.2.1<(s.2.2.length:Int))) (zaa s.2.2[s.2.1.toNat]? fun x=>gd (zbg (s.1+1)) (gd (decide (0<=s.2.1)&&decide (s.2.1<(↑(List.length (List.set s.2.2 (s.2.1.toNat) {part:=s.1,way:=x.way,type:=x.type,sels:=x.sels,after:=x.after,brings:=x.brings:Stp})):Int))) (zaa (List.set s.2.2 (s.2.1.toNat) {part:=s.1,way:=x.way,type:=x.type,sels:=x.sels,after:=x.after,brings:=x.brings:Stp})[s.2.1.toNat]? fun x_1=>zaa (zaF (s.1+1,x_1.way)) fun(x_2:Int×List (List UInt8))=>gd (decide (List.length x_2.2=List.length x_1.way)) (zaa (zay x_2.1) fun x_3=>gd (decide (0<=s.2.1)&&decide (s.2.1<(↑(List.length (List.set (List.set s.2.2 (s.2.1.toNat) {part:=s.1,way:=x.way,type:=x.type,sels:=x.sels,after:=x.after,brings:=x.brings:Stp}) (s.2.1.toNat) {part:=x_1.part,way:=x_2.2,type:=x_1.type,sels:=x_1.sels,after:=x_1.after,brings:=x_1.brings:Stp})):Int))) (zaa (List.set (List.set s.2.2 (s.2.1.toNat) {part:=s.1,way:=x.way,type:=x.type,sels:=x.sels,after:=x.after,brings:=x.brings:Stp}) (s.2.1.toNat) {part:=x_1.part,way:=x_2.2,type:=x_1.type,sels:=x_1.sels,after:=x_1.after,brings:=x_1.brings:Stp})[s.2.1.toNat]? fun x_4=>gd (zbg (x_2.1+1)) (gd (decide (0<=s.2.1)&&decide (s.2.1<(↑(List.length (List.set (List.set (List.set s.2.2 (s.2.1.toNat) {part:=s.1,way:=x.way,type:=x.type,sels:=x.sels,after:=x.after,brings:=x.brings:Stp}) (s.2.1.toNat) {part:=x_1.part,way:=x_2.2,type:=x_1.type,sels:=x_1.sels,after:=x_1.after,brings:=x_1.brings:Stp}) (s.2.1.toNat) {part:=x_4.part,way:=x_4.way,type:=x_3,sels:=x_4.sels,after:=x_4.after,brings:=x_4.brings:Stp})):Int))) (zaa (List.set (List.set (List.set s.2.2 (s.2.1.toNat) {part:=s.1,way:=x.way,type:=x.type,sels:=x.sels,after:=x.after,brings:=x.brings:Stp}) (s.2.1.toNat) {part:=x_1.part,way:=x_2.2,type:=x_1.type,sels:=x_1.sels,after:=x_1.after,brings:=x_1.brings:Stp}) (s.2.1.toNat) {part:=x_4.part,way:=x_4.way,type:=x_3,sels:=x_4.sels,after:=x_4.after,brings:=x_4.brings:Stp})[s.2.1.toNat]? fun x_5=>zaa (zdI (x_2.1+1,x_5.sels)) fun(x_6:Int×List Sel)=>gd (decide (List.length x_6.2=List.length x_5.sels)) (gd (decide (0<=s.2.1)&&decide (s.2.1<(↑(List.length (List.set (List.set (List.set (List.set s.2.2 (s.2.1.toNat) {part:=s.1,way:=x.way,type:=x.type,sels:=x.sels,after:=x.after,brings:=x.brings:Stp}) (s.2.1.toNat) {part:=x_1.part,way:=x_2.2,type:=x_1.type,sels:=x_1.sels,after:=x_1.after,brings:=x_1.brings:Stp}) (s.2.1.toNat) {part:=x_4.part,way:=x_4.way,type:=x_3,sels:=x_4.sels,after:=x_4.after,brings:=x_4.brings:Stp}) (s.2.1.toNat) {part:=x_5.part,way:=x_5.way,type:=x_5.type,sels:=x_6.2,after:=x_5.after,brings:=x_5.brings:Stp})):Int))) (zaa (List.set (List.set (List.set (List.set s.2.2 (s.2.1.toNat) {part:=s.1,way:=x.way,type:=x.type,sels:=x.sels,after:=x.after,brings:=x.brings:Stp}) (s.2.1.toNat) {part:=x_1.part,way:=x_2.2,type:=x_1.type,sels:=x_1.sels,after:=x_1.after,brings:=x_1.brings:Stp}) (s.2.1.toNat) {part:=x_4.part,way:=x_4.way,type:=x_3,sels:=x_4.sels,after:=x_4.after,brings:=x_4.brings:Stp}) (s.2.1.toNat) {part:=x_5.part,way:=x_5.way,type:=x_5.type,sels:=x_6.2,after:=x_5.after,brings:=x_5.brings:Stp})[s.2.1.toNat]? fun x_7=>zaa (zbm (x_6.1,x_7.after)) fun(x_8:Int×List Int)=>gd (decide (List.length x_8.2=List.length x_7.after)) (gd (decide (0<=s.2.1)&&decide (s.2.1<(↑(List.length (List.set (List.set (List.set (List.set (List.set s.2.2 (s.2.1.toNat) {part:=s.1,way:=x.way,type:=x.type,sels:=x.sels,after:=x.after,brings:=x.brings:Stp}) (s.2.1.toNat) {part:=x_1.part,way:=x_2.2,type:=x_1.type,sels:=x_1.sels,after:=x_1.after,brings:=x_1.brings:Stp}) (s.2.1.toNat) {part:=x_4.part,way:=x_4.way,type:=x_3,sels:=x_4.sels,after:=x_4.after,brings:=x_4.brings:Stp}) (s.2.1.toNat) {part:=x_5.part,way:=x_5.way,type:=x_5.type,sels:=x_6.2,after:=x_5.after,brings:=x_5.brings:Stp}) (s.2.1.toNat) {part:=x_7.part,way:=x_7.way,type:=x_7.type,sels:=x_7.sels,after:=x_8.2,brings:=x_7.brings:Stp})):Int))) (zaa (List.set (List.set (List.set (List.set (List.set s.2.2 (s.2.1.toNat) {part:=s.1,way:=x.way,type:=x.type,sels:=x.sels,after:=x.after,brings:=x.brings:Stp}) (s.2.1.toNat) {part:=x_1.part,way:=x_2.2,type:=x_1.type,sels:=x_1.sels,after:=x_1.after,brings:=x_1.brings:Stp}) (s.2.1.toNat) {part:=x_4.part,way:=x_4.way,type:=x_3,sels:=x_4.sels,after:=x_4.after,brings:=x_4.brings:Stp}) (s.2.1.toNat) {part:=x_5.part,way:=x_5.way,type:=x_5.type,sels:=x_6.2,after:=x_5.after,brings:=x_5.brings:Stp}) (s.2.1.toNat) {part:=x_7.part,way:=x_7.way,type:=x_7.type,sels:=x_7.sels,after:=x_8.2,brings:=x_7.brings:Stp})[s.2.1.toNat]? fun x_9=>zaa (zaF (x_8.1,x_9.brings)) fun(x_10:Int×List (List UInt8))=>gd (decide (List.length x_10.2=List.length x_9.brings)) (gd (zbg (s.2.1+1)) (some (Sum.inl (x_10.1,s.2.1+1,List.set (List.set (List.set (List.set (List.set (List.set s.2.2 (s.2.1.toNat) {part:=s.1,way:=x.way,type:=x.type,sels:=x.sels,after:=x.after,brings:=x.brings:Stp}) (s.2.1.toNat) {part:=x_1.part,way:=x_2.2,type:=x_1.type,sels:=x_1.sels,after:=x_1.after,brings:=x_1.brings:Stp}) (s.2.1.toNat) {part:=x_4.part,way:=x_4.way,type:=x_3,sels:=x_4.sels,after:=x_4.after,brings:=x_4.brings:Stp}) (s.2.1.toNat) {part:=x_5.part,way:=x_5.way,type:=x_5.type,sels:=x_6.2,after:=x_5.after,brings:=x_5.brings:Stp}) (s.2.1.toNat) {part:=x_7.part,way:=x_7.way,type:=x_7.type,sels:=x_7.sels,after:=x_8.2,brings:=x_7.brings:Stp}) (s.2.1.toNat) {part:=x_9.part,way:=x_9.way,type:=x_9.type,sels:=x_9.sels,after:=x_9.after,brings:=x_10.2:Stp})))))))))))))))) (some (Sum.inr (s.1,s.2.1,s.2.2)))) (d.1,0,d.2)) fun(x:Int×Int×List Stp)=>some (x.1,x.2.2)
def zbs:Int×List Stp->Option (Int×List Stp):=zb0 zbp
theorem zdp(d:Int×List Stp):zbs d=zbp d:=congrFun (zan zbp) d
def zc6:TE:=⟨10,[.own 0,.int .i64],[.arr (.nm .Stp) (.at [(1,.no),(3,.all),(4,.no),(5,.no)])],(.int .i64),[.arr (.nm .Stp) (.at [(1,.no),(3,.all),(4,.no),(5,.no)])],zbs⟩
theorem zi5(d:Int×List Stp):zbe [zcc,zaU,zdS,zbN] ztD c10 [.t 4] [.own 0,.int .i64] [.arr (.nm .Stp) (.at [(1,.no),(3,.all),(4,.no),(5,.no)])] (.int .i64) [.arr (.nm .Stp) (.at [(1,.no),(3,.all),(4,.no),(5,.no)])] d=zbs d:=Eq.trans (b:=zbp d) (by kernel_rfl) (zdp d).symm
def zbJ(d:List Int×Int):Option Int:=zaa (za4 (fun(s:Int×Int)=>zad (decide (s.2<(d.1.length:Int))) (gd (decide (0<=s.2)) (zaa d.1[s.2.toNat]? fun x=>zad (x !=s.1) (some (Sum.inr (Sum.inr (-1)))) (gd (zbg (s.1+1)) (gd (zbg (s.2+1)) (some (Sum.inl (s.1+1,s.2+1))))))) (some (Sum.inr (Sum.inl (s.1,s.2))))) (d.2,0)) fun(x:Int×Int⊕Int)=>caseS x (fun d=>some d.1) fun r=>some r
def zbl:List Int×Int->Option Int:=zb0 zbJ
theorem zdE(d:List Int×Int):zbl d=zbJ d:=congrFun (zan zbJ) d
def zdL:TE:=⟨12,[.lst (.int .i64),.int .i64],[],(.int .i64),[],zbl⟩
theorem zj8(d:List Int×Int):zbe [] ztF c12 [.t 4] [.lst (.int .i64),.int .i64] [] (.int .i64) [] d=zbl d:=Eq.trans (b:=zbJ d) (by kernel_rfl) (zdE d).symm
def zat(d:List Stp):Option Bool:=zaa (zca (d,1048576)) fun x=>zad (decide (x<0)) (some true) (zaa (zaR d) fun x=>zaa (zbi x) fun x=>zaa (zaR d) fun x_1=>zaa (zaE x_1) fun x_2=>zaa (zaZ (x_2,x)) fun x_3=>zad (!x_3) (some false) (zaa (zaR d) fun x_4=>zaa (zb9 (x_1,x_4)) fun x_5=>zad (!x_5) (some false) (zaa (zbs (1,x_1)) fun(x_6:Int×List Stp)=>gd (decide (List.length x_6.2=List.length x_1)) (zaa (zad (decide (x_6.1<0)) (some (true,x,x_2)) (zaa (zaZ (x_2,x)) fun x_7=>some (!x_7,x,x_2))) fun(x:Bool×List Int×List Int)=>zad x.1 (some false) (zaa (zbm (1,x.2.2)) fun(x_7:Int×List Int)=>gd (decide (List.length x_7.2=List.length x.2.2)) (zaa (zbl (x_7.2,1)) fun x_8=>zad (decide (x_8<0)) (some false) (zad (x_8 !=x_7.1) (some false) (zaa (zaR d) fun x_9=>zaa (zaE x_9) fun x_10=>zaa (zaZ (x_10,x.2.1)) fun x=>zad (!x) (some false) (zaa (zbl (x_7.2,1)) fun x=>zad (decide (x<0)) (some false) (zad (x !=x_7.1) (some false) (some true)))))))))))
def zaD:List Stp->Option Bool:=zb0 zat
theorem zbk(d:List Stp):zaD d=zat d:=congrFun (zan zat) d
def zbM:TE:=⟨3,[.lst (.nm .Stp)],[],(.bool),[],zaD⟩
theorem zd9(d:List Stp):zbe [zeH,zeI,zdK,zcz,zcO,zeG,zc6,zbN,zdL] cy3 c3 [.t 2] [.lst (.nm .Stp)] [] (.bool) [] d=zaD d:=Eq.trans (b:=zat d) (by kernel_rfl) (zbk d).symm
end
end Go.Fw
namespace Go.Fw
open Go Go.Proofs
set_option maxRecDepth 100000
set_option linter.unusedVariables false
theorem zf3:Try.prog.follows .mixedOrders=true:=by kernel_rfl
theorem zuc:FnOk Try.prog 22 c22 2 [.t 4]:=⟨⟨Try.f22,Try.func22,by kernel_rfl⟩,Try.call22,zf3⟩
theorem zuk:FnOk Try.prog 32 c32 2 [.t 4]:=⟨⟨Try.f32,Try.func32,by kernel_rfl⟩,Try.call32,zf3⟩
theorem zud:FnOk Try.prog 23 c23 2 [.t 4]:=⟨⟨Try.f23,Try.func23,by kernel_rfl⟩,Try.call23,zf3⟩
theorem zue:FnOk Try.prog 24 c24 2 [.t 4]:=⟨⟨Try.f24,Try.func24,by kernel_rfl⟩,Try.call24,zf3⟩
theorem zt6:FnOk Try.prog 13 c13 2 [.t 4]:=⟨⟨Try.f13,Try.func13,by kernel_rfl⟩,Try.call13,zf3⟩
theorem ok4:FnOk Try.prog 4 c4 2 [.t 4]:=⟨⟨Try.f4,Try.func4,by kernel_rfl⟩,Try.call4,zf3⟩
theorem zuf:FnOk Try.prog 25 c25 1 [.t 2]:=⟨⟨Try.f25,Try.func25,by kernel_rfl⟩,Try.call25,zf3⟩
theorem zul:FnOk Try.prog 33 c33 1 [.c 2 (some 5)]:=⟨⟨Try.f33,Try.func33,by kernel_rfl⟩,Try.call33,zf3⟩
theorem zug:FnOk Try.prog 26 c26 1 [.t 2]:=⟨⟨Try.f26,Try.func26,by kernel_rfl⟩,Try.call26,zf3⟩
theorem zuh:FnOk Try.prog 27 c27 1 [.t 2]:=⟨⟨Try.f27,Try.func27,by kernel_rfl⟩,Try.call27,zf3⟩
theorem zt7:FnOk Try.prog 14 c14 1 [.c 2 (some 6)]:=⟨⟨Try.f14,Try.func14,by kernel_rfl⟩,Try.call14,zf3⟩
theorem ok6:FnOk Try.prog 6 c6 1 [.t 2]:=⟨⟨Try.f6,Try.func6,by kernel_rfl⟩,Try.call6,zf3⟩
theorem ok5:FnOk Try.prog 5 c5 1 [.t 2]:=⟨⟨Try.f5,Try.func5,by kernel_rfl⟩,Try.call5,zf3⟩
theorem ok7:FnOk Try.prog 7 c7 1 [.t 2]:=⟨⟨Try.f7,Try.func7,by kernel_rfl⟩,Try.call7,zf3⟩
theorem ok8:FnOk Try.prog 8 c8 2 [.t 4]:=⟨⟨Try.f8,Try.func8,by kernel_rfl⟩,Try.call8,zf3⟩
theorem zui:FnOk Try.prog 30 c30 2 [.t 4]:=⟨⟨Try.f30,Try.func30,by kernel_rfl⟩,Try.call30,zf3⟩
theorem zum:FnOk Try.prog 45 c45 2 [.t 4]:=⟨⟨Try.f45,Try.func45,by kernel_rfl⟩,Try.call45,zf3⟩
theorem zuj:FnOk Try.prog 31 c31 2 [.t 4]:=⟨⟨Try.f31,Try.func31,by kernel_rfl⟩,Try.call31,zf3⟩
theorem zt8:FnOk Try.prog 18 c18 2 [.t 4]:=⟨⟨Try.f18,Try.func18,by kernel_rfl⟩,Try.call18,zf3⟩
theorem ok9:FnOk Try.prog 9 c9 2 [.t 4]:=⟨⟨Try.f9,Try.func9,by kernel_rfl⟩,Try.call9,zf3⟩
theorem zua:FnOk Try.prog 20 c20 1 [.t 2]:=⟨⟨Try.f20,Try.func20,by kernel_rfl⟩,Try.call20,zf3⟩
theorem zt9:FnOk Try.prog 19 c19 2 [.t 4]:=⟨⟨Try.f19,Try.func19,by kernel_rfl⟩,Try.call19,zf3⟩
theorem zub:FnOk Try.prog 21 c21 2 [.t 4]:=⟨⟨Try.f21,Try.func21,by kernel_rfl⟩,Try.call21,zf3⟩
theorem zt4:FnOk Try.prog 11 c11 2 [.t 4]:=⟨⟨Try.f11,Try.func11,by kernel_rfl⟩,Try.call11,zf3⟩
theorem zt3:FnOk Try.prog 10 c10 2 [.t 4]:=⟨⟨Try.f10,Try.func10,by kernel_rfl⟩,Try.call10,zf3⟩
theorem zt5:FnOk Try.prog 12 c12 2 [.t 4]:=⟨⟨Try.f12,Try.func12,by kernel_rfl⟩,Try.call12,zf3⟩
theorem ok3:FnOk Try.prog 3 c3 1 [.t 2]:=⟨⟨Try.f3,Try.func3,by kernel_rfl⟩,Try.call3,zf3⟩
theorem zii:EOk Try.prog zc7:=EOk.pure (Φ:=[]) (tys:=ztM) zuc rfl (trivial) rfl rfl (zi6)
theorem zmu(n:Nat):EOk Try.prog (zgJ n)/\EOk Try.prog (zfI n):=by
 induction n with
 | zero=>exact⟨EOk.zeroP rfl rfl (fun _=>rfl),EOk.zeroP rfl rfl (fun _=>rfl)⟩
 | succ n ih=>exact⟨EOk.pure (Φ:=[zfI n]) (tys:=ztU) zuk rfl (⟨ih.2,trivial⟩) rfl rfl (zoX n),EOk.pure (Φ:=[zgJ n]) (tys:=ztN) zud rfl (⟨ih.1,trivial⟩) rfl rfl (zm8 n)⟩
theorem zmo:EOk Try.prog zfY:=EOk.limP (fun n=>(zmu n).2)
theorem zmn:EOk Try.prog zfH:=EOk.pure (Φ:=[]) (tys:=ztO) zue rfl (trivial) rfl rfl (zm7)
theorem zmp:EOk Try.prog zfJ:=EOk.pure (Φ:=[zc7,zfY,zfH]) (tys:=ztG) zt6 rfl (⟨zii,⟨zmo,⟨zmn,trivial⟩⟩⟩) rfl rfl (zm9)
theorem zkG:EOk Try.prog zeH:=EOk.pure (Φ:=[zfJ]) (tys:=cy4) ok4 rfl (⟨zmp,trivial⟩) rfl rfl (zlf)
theorem zij:EOk Try.prog zc8:=EOk.te (Φ:=[]) (tys:=ztP) zuf rfl (trivial) (by kernel_rfl) rfl (zi7)
theorem zmv(n:Nat):EOk Try.prog (zgK n)/\EOk Try.prog (zfL n):=by
 induction n with
 | zero=>exact⟨EOk.zeroT (by kernel_rfl) rfl (fun _=>rfl),EOk.zeroT (by kernel_rfl) rfl (fun _=>rfl)⟩
 | succ n ih=>exact⟨EOk.te (Φ:=[zfL n]) (tys:=ztV) zul rfl (⟨ih.2,trivial⟩) (by kernel_rfl) rfl (zoY n),EOk.te (Φ:=[zgK n]) (tys:=ztQ) zug rfl (⟨ih.1,trivial⟩) (by kernel_rfl) rfl (znb n)⟩
theorem zmr:EOk Try.prog zfZ:=EOk.limT rfl (fun n=>(zmv n).2)
theorem zmq:EOk Try.prog zfK:=EOk.te (Φ:=[]) (tys:=ztR) zuh rfl (trivial) (by kernel_rfl) rfl (zna)
theorem zms:EOk Try.prog zfM:=EOk.te (Φ:=[zc8,zfZ,zfK]) (tys:=ztH) zt7 rfl (⟨zij,⟨zmr,⟨zmq,trivial⟩⟩⟩) (by kernel_rfl) rfl (znc)
theorem zkH:EOk Try.prog zeI:=EOk.te (Φ:=[zfM]) (tys:=cy6) ok6 rfl (⟨zms,trivial⟩) (by kernel_rfl) rfl (zlg)
theorem zjI:EOk Try.prog zdK:=EOk.te (Φ:=[]) (tys:=cy5) ok5 rfl (trivial) (by kernel_rfl) rfl (zj7)
theorem zhC:EOk Try.prog zcz:=EOk.te (Φ:=[zaT,zaG,zaA]) (tys:=cy7) ok7 rfl (⟨zdP,⟨zcQ,⟨zcq,trivial⟩⟩⟩) (by kernel_rfl) rfl (zhJ)
theorem zhW:EOk Try.prog zcO:=EOk.pure (Φ:=[]) (tys:=cy8) ok8 rfl (trivial) rfl rfl (zm4)
theorem zig:EOk Try.prog zc5:=EOk.pure (Φ:=[]) (tys:=ztS) zui rfl (trivial) rfl rfl (zi4)
theorem zmt(n:Nat):EOk Try.prog (zgI n)/\EOk Try.prog (zfF n):=by
 induction n with
 | zero=>exact⟨EOk.zeroP rfl rfl (fun _=>rfl),EOk.zeroP rfl rfl (fun _=>rfl)⟩
 | succ n ih=>exact⟨EOk.pure (Φ:=[zfF n]) (tys:=ztW) zum rfl (⟨ih.2,trivial⟩) rfl rfl (zoW n),EOk.pure (Φ:=[zgI n]) (tys:=ztT) zuj rfl (⟨ih.1,trivial⟩) rfl rfl (zm5 n)⟩
theorem zml:EOk Try.prog zfX:=EOk.limP (fun n=>(zmt n).2)
theorem zmm:EOk Try.prog zfG:=EOk.pure (Φ:=[zc5,zfX,zcO]) (tys:=ztI) zt8 rfl (⟨zig,⟨zml,⟨zhW,trivial⟩⟩⟩) rfl rfl (zm6)
theorem zkF:EOk Try.prog zeG:=EOk.pure (Φ:=[zfG]) (tys:=cy9) ok9 rfl (⟨zmm,trivial⟩) rfl rfl (zle)
theorem zdR:EOk Try.prog zaU:=EOk.pure (Φ:=[]) (tys:=ztK) zua rfl (trivial) rfl rfl (zkb)
theorem zg0:EOk Try.prog zcc:=EOk.te (Φ:=[zaU]) (tys:=ztJ) zt9 rfl (⟨zdR,trivial⟩) (by kernel_rfl) rfl (zhx)
theorem zik(n:Nat):EOk Try.prog (zdM n):=by
 induction n with
 | zero=>exact EOk.zeroT (by kernel_rfl) rfl (fun _=>rfl)
 | succ n ih=>exact EOk.te (Φ:=[zaU,zdM n]) (tys:=ztL) zub rfl (⟨zdR,⟨ih,trivial⟩⟩) (by kernel_rfl) rfl (zka n)
theorem zjK:EOk Try.prog zdS:=EOk.limT rfl (fun n=>(zik n))
theorem zgm:EOk Try.prog zbN:=EOk.te (Φ:=[]) (tys:=ztE) zt4 rfl (trivial) (by kernel_rfl) rfl (zj9)
theorem zih:EOk Try.prog zc6:=EOk.te (Φ:=[zcc,zaU,zdS,zbN]) (tys:=ztD) zt3 rfl (⟨zg0,⟨zdR,⟨zjK,⟨zgm,trivial⟩⟩⟩⟩) (by kernel_rfl) rfl (zi5)
theorem zjJ:EOk Try.prog zdL:=EOk.pure (Φ:=[]) (tys:=ztF) zt5 rfl (trivial) rfl rfl (zj8)
theorem zdQ:EOk Try.prog zbM:=EOk.pure (Φ:=[zeH,zeI,zdK,zcz,zcO,zeG,zc6,zbN,zdL]) (tys:=cy3) ok3 rfl (⟨zkG,⟨zkH,⟨zjI,⟨zhC,⟨zhW,⟨zkF,⟨zih,⟨zgm,⟨zjJ,trivial⟩⟩⟩⟩⟩⟩⟩⟩⟩) rfl rfl (zd9)
end Go.Fw
namespace Go.Fw
open Go
set_option linter.unusedSimpArgs false
set_option linter.unusedVariables false
abbrev KK:Nat:=1048576
def KS(N:Nat)(l:List (List UInt8)):Prop:=l.length<=N/\∀s∈l,s.length<=N
def Sz(l:Int)(P:Prop)(m:Nat)(r:Int):Prop:=-1<=r/\r<=l/\(0<=r->P/\r+m<=l)
def mS(xs:List (List UInt8)):Nat:=xs.length
theorem zpQ{α:Type}{xs:List α}{w:α->Nat}{i:Nat}(h:i<xs.length):((xs.take (i+1)).map w).sum=((xs.take i).map w).sum+w xs[i]:=by
 rw[List.take_succ_eq_append_getElem h,List.map_append,List.sum_append]
 simp
theorem zoR{α:Type}{xs:List α}{g:α×Int->Option Int}{B:α->Prop}{w:α->Nat}(hl:xs.length<=BIG)(hg:∀x∈xs,∀l,0<=l->l<=(KK:Int)->wp (g (x,l)) (Sz l (B x) (w x))){l:Int}(h0:0<=l)(h1:l<=(KK:Int)):
  wp (gd (zbg (l-(↑(List.length xs):Int)))
  (zad (decide (l-(↑(List.length xs):Int)<0)) (some (-1))
   (zaa
    (za4
     (fun(s:Int×Int) =>
      zad (decide (s.snd<(↑(List.length xs):Int)))
       (gd (decide (0<=s.snd))
        (zaa xs[Int.toNat s.snd]? fun(x:α) =>
         zaa (g (x,s.fst)) fun(x:Int)=>zad (decide (x<0)) (some (Sum.inr (Sum.inr (-1)))) (gd (zbg (s.snd+1)) (some (Sum.inl (x,s.snd+1))))))
       (some (Sum.inr (Sum.inl (s.fst,s.snd)))))
     (l-(↑(List.length xs):Int),0))
    fun(x:Int×Int⊕Int)=>caseS x (fun(d:Int×Int)=>some d.fst) fun(r:Int)=>some r))) (Sz l (xs.length<=KK/\∀x∈xs,B x) (xs.length+(xs.map w).sum)):=by
 have hB:BIG=9223372036854775807:=rfl
 have hk:(KK:Int)=1048576:=rfl
 simp only[ywa,ywb,ywc,ywd,ywe,yhw,yhx,yhv,yhy,yhz,yhb,yhc,yhd,yhu,yhe,yhf,yhg,yhh,yhi,yhj,yhk,yhl,yhm,yhn,yho,yhp]
 refine⟨by omega,fun _=>⟨by omega,by omega,fun h=>by omega⟩,fun hn=>?_⟩
 have hlen:xs.length<=KK:=by show xs.length<=1048576;omega
 refine zd8 (fun s:Int×Int=>0<=s.1/\s.1<=l/\0<=s.2/\s.2<=xs.length/\(s.1+xs.length+((xs.take s.2.toNat).map w).sum<=l)/\∀(j:Nat)(hj:j<xs.length),(j:Int)<s.2->B xs[j]) (fun s=>xs.length-s.2.toNat) ⟨by show(0:Int)<=l-_;omega,by show l-_<=l;omega,by show(0:Int)<=0;omega,by show(0:Int)<=_;omega,by show l-_+_+_<=l;simp,fun j _ hj=>by have:(j:Int)<0:=hj;omega⟩ ?_
 rintro⟨a,i⟩ ⟨i1,i2,i3,i4,i6,i5⟩
 dsimp only at i1 i2 i3 i4 i5 i6|-
 simp only[ywa,ywb,ywc,ywd,ywe,yhw,yhx,yhv,yhy,yhz,yhb,yhc,yhd,yhu,yhe,yhf,yhg,yhh,yhi,yhj,yhk,yhl,yhm,yhn,yho,yhp]
 refine⟨fun hlt=>⟨i3,by omega,?_⟩,fun hge=>⟨by omega,i2,fun _=>⟨⟨hlen,fun x hx=>?_⟩,?_⟩⟩⟩
 ·refine(hg _ (ygh _) a i1 (by omega)).mono fun r hr=>?_
  obtain⟨r1,r2,r3⟩:=hr
  refine⟨fun h=>⟨by omega,by omega,fun h=>by omega⟩,fun h=>⟨⟨by omega,by omega⟩,⟨by omega,by omega,by omega,by omega,?_,fun j hj hji=>?_⟩,by omega⟩⟩
  ·have h4:=(r3 (by omega)).2
   have e:(i+1).toNat=i.toNat+1:=by omega
   rw[e,zpQ (by omega)]
   omega
  ·by_cases hj2:(j:Int)<i
   ·exact i5 j hj hj2
   ·have:j=i.toNat:=by omega
    subst this
    exact(r3 (by omega)).1
 ·obtain⟨j,hj,rfl⟩:=List.getElem_of_mem hx
  exact i5 j hj (by omega)
 ·have e:i.toNat=xs.length:=by omega
  rw[e,List.take_length]at i6
  omega
theorem zqn{xs:List (List UInt8)}{l:Int}(hm:KS BIG xs)(h0:0<=l)(h1:l<=(KK:Int)):wp (za1 (xs,l)) (Sz l (KS KK xs) (mS xs)):=by
 have hB:BIG=9223372036854775807:=rfl
 have hk:(KK:Int)=1048576:=rfl
 have hl:=hm.1
 rw[zdq];unfold zbq;dsimp only
 simp only[ywa,ywb,ywc,ywd,ywe,yhw,yhx,yhv,yhy,yhz,yhb,yhc,yhd,yhu,yhe,yhf,yhg,yhh,yhi,yhj,yhk,yhl,yhm,yhn,yho,yhp]
 refine⟨by omega,fun _=>⟨by omega,by omega,fun h=>by omega⟩,fun hn=>?_⟩
 have hlen:xs.length<=KK:=by show xs.length<=1048576;omega
 refine zd8 (fun s:Int×Int=>0<=s.1/\s.1+xs.length<=l/\0<=s.2/\s.2<=xs.length/\∀(j:Nat)(hj:j<xs.length),(j:Int)<s.2->xs[j].length<=KK) (fun s=>xs.length-s.2.toNat) ⟨by show(0:Int)<=l-_;omega,by show l-_+_<=l;omega,by show(0:Int)<=0;omega,by show(0:Int)<=_;omega,fun j _ hj=>by have:(j:Int)<0:=hj;omega⟩ ?_
 rintro⟨a,i⟩ ⟨i1,i2,i3,i4,i5⟩
 dsimp only at i1 i2 i3 i4 i5|-
 simp only[ywa,ywb,ywc,ywd,ywe,yhw,yhx,yhv,yhy,yhz,yhb,yhc,yhd,yhu,yhe,yhf,yhg,yhh,yhi,yhj,yhk,yhl,yhm,yhn,yho,yhp]
 refine⟨fun hlt=>⟨i3,by omega,?_⟩,fun hge=>⟨by omega,by omega,fun _=>⟨⟨hlen,fun x hx=>?_⟩,i2⟩⟩⟩
 ·have hb:=hm.2 _ (ygh (h:=(by omega:i.toNat<xs.length)))
  refine⟨by omega,fun h=>⟨by omega,by omega,fun h=>by omega⟩,fun h=>⟨by omega,⟨by omega,by omega,by omega,by omega,fun j hj hji=>?_⟩,by omega⟩⟩
  by_cases hj2:(j:Int)<i
  ·exact i5 j hj hj2
  ·have:j=i.toNat:=by omega
   subst this
   show _<=1048576
   omega
 ·obtain⟨j,hj,rfl⟩:=List.getElem_of_mem hx
  exact i5 j hj (by omega)
theorem Sz.end{l:Int}{x:Int}{P Q:Prop}{m m':Nat}(h:Sz l P m x){l':Int}(hl:l<=l')(hm:m'=m)(hq:P->Q):wp (zad (decide (x<0)) (some (-1)) (some x)) (Sz l' Q m'):=by
 obtain⟨h1,h2,h3⟩:=h
 simp only[ywa,ywb,ywc,ywd,ywe,yhw,yhx,yhv,yhy,yhz,yhb,yhc,yhd,yhu,yhe,yhf,yhg,yhh,yhi,yhj,yhk,yhl,yhm,yhn,yho,yhp]
 exact⟨fun _=>⟨by omega,by omega,fun h=>by omega⟩,fun h=>⟨by omega,by omega,fun _=>⟨hq (h3 (by omega)).1,by have:=(h3 (by omega)).2;omega⟩⟩⟩
theorem ziR{α U:Type}{xs:List α}{z:α}{g:α->Option U}{mk:U->α}(hl:xs.length<=KK)(hg:∀x∈xs,∃y,g x=some y/\mk y=x):
  gd (decide (0<=(↑(List.length xs):Int))&&decide ((↑(List.length xs):Int)<=(↑LIM:Int)))
  (zaa
   (za4
    (fun(s:Int×List α) =>
     zad (decide (s.fst<(↑(List.length xs):Int)))
      (gd (decide (0<=s.fst))
       (zaa xs[Int.toNat s.fst]? fun(x:α) =>
        zaa (g x) fun(x:U) =>
         gd (decide (0<=s.fst)&&decide (s.fst<(↑(List.length s.snd):Int)))
          (zaa s.snd[Int.toNat s.fst]? fun(x_1:α)=>gd (zbg (s.fst+1)) (some (Sum.inl (s.fst+1,List.set s.snd (Int.toNat s.fst) (mk x)))))))
      (some (Sum.inr (s.fst,s.snd))))
    (0,List.replicate (Int.toNat (↑(List.length xs):Int)) z))
   fun(x:Int×List α)=>some x.snd)=some xs:=by
 have hk:KK=1048576:=rfl
 have hL:LIM=1099511627776:=rfl
 rw[<-zrB]
 simp only[ywa,ywb,ywc,ywd,ywe,yhw,yhx,yhv,yhy,yhz,yhb,yhc,yhd,yhu,yhe,yhf,yhg,yhh,yhi,yhj,yhk,yhl,yhm,yhn,yho,yhp]
 refine⟨by omega,?_⟩
 refine zd8 (fun s:Int×List α=>0<=s.1/\s.1<=xs.length/\s.2.length=xs.length/\∀(j:Nat)(hj:j<xs.length)(hj2:j<s.2.length),(j:Int)<s.1->s.2[j]=xs[j]) (fun s=>xs.length-s.1.toNat) ⟨by show(0:Int)<=0;omega,by show(0:Int)<=_;omega,by simp,fun j _ _ hj=>by have:(j:Int)<0:=hj;omega⟩ ?_
 rintro⟨i,ys⟩ ⟨i1,i2,i3,i4⟩
 dsimp only at i1 i2 i3 i4|-
 simp only[ywa,ywb,ywc,ywd,ywe,yhw,yhx,yhv,yhy,yhz,yhb,yhc,yhd,yhu,yhe,yhf,yhg,yhh,yhi,yhj,yhk,yhl,yhm,yhn,yho,yhp]
 refine⟨fun hlt=>⟨i1,by omega,?_⟩,fun hge=>List.ext_getElem i3 fun j hj hj2=>i4 j hj2 hj (by omega)⟩
 obtain⟨y,hy,hm⟩:=hg _ (ygh (h:=(by omega:i.toNat<xs.length)))
 refine zsH hy ⟨by omega,by omega,by omega,⟨by omega,by omega,by simpa using i3,fun j hj hj2 hji=>?_⟩,by omega⟩
 by_cases hj3:i.toNat=j
 ·subst hj3
  simp[hm]
 ·rw[List.getElem_set_ne hj3]
  exact i4 j hj (by rw[i3];exact hj) (by omega)
theorem zqo{xs:List (List UInt8)}(h:KS KK xs):za2 xs=some xs:=by
 rw[zdr];unfold zbr
 exact ziR (g:=fun x=>some x) (mk:=fun x=>x) h.1 (fun _ _=>⟨_,rfl,rfl⟩)
theorem zic{α:Type}{xs:List α}{g:α×α->Option Bool}(hl:xs.length<=KK)(hg:∀x∈xs,g (x,x)=some true):
  zad ((↑(List.length xs):Int) !=(↑(List.length xs):Int)) (some false)
  (zaa
   (za4
    (fun(s:Int) =>
     zad (decide (s<(↑(List.length xs):Int)))
      (gd (decide (0<=s))
       (zaa xs[Int.toNat s]? fun(x:α) =>
        gd (decide (0<=s))
         (zaa xs[Int.toNat s]? fun(x_1:α) =>
          zaa (g (x,x_1)) fun(x:Bool)=>zad (!x) (some (Sum.inr (Sum.inr false))) (gd (zbg (s+1)) (some (Sum.inl (s+1)))))))
      (some (Sum.inr (Sum.inl s))))
    0)
   fun(x:Int⊕Bool)=>caseS x (fun(d:Int)=>some true) fun(r:Bool)=>some r)=some true:=by
 have hk:KK=1048576:=rfl
 rw[<-zrB,bne_self_eq_false,zbG,ywb]
 refine zd8 (fun s:Int=>0<=s) (fun s=>xs.length-s.toNat) (by omega) fun i hi=>?_
 simp only[ywa,ywb,ywc,ywd,ywe,yhw,yhx,yhv,yhy,yhz,yhb,yhc,yhd,yhu,yhe,yhf,yhg,yhh,yhi,yhj,yhk,yhl,yhm,yhn,yho,yhp]
 exact⟨fun hlt=>⟨hi,by omega,hi,by omega,zsH (hg _ (ygh _)) (by simp;omega)⟩,fun _=>trivial⟩
theorem zp0{xs:List (List UInt8)}(h:KS KK xs):za0 (xs,xs)=some true:=by
 rw[zdo];unfold zbo;dsimp only
 have:=zic (xs:=xs) (g:=fun x=>some (x.1==x.2)) h.1 (fun _ _=>by simp)
 exact this
abbrev MM:Int:=1099511627776
noncomputable def mkT(k:Int):List UInt8:=(zay k).getD []
theorem zdh{k:Int}(h0:0<=k)(h1:k<=MM):zay k=some (mkT k):=by
 have hB:BIG=9223372036854775807:=rfl
 have hM:MM=1099511627776:=rfl
 have:wp (zay k) (fun _=>True):=by
  rw[zdG];unfold zbL
  simp only[ywa,ywb,ywc,ywd,ywe,yhw,yhx,yhv,yhy,yhz,yhb,yhc,yhd,yhu,yhe,yhf,yhg,yhh,yhi,yhj,yhk,yhl,yhm,yhn,yho,yhp]
  refine⟨fun _=>trivial,fun h=>?_⟩
  refine zd8 (fun s:Int×List UInt8=>0<=s.1/\s.1<=k/\s.2.length+s.1<=k) (fun s=>s.1.toNat) ⟨h0,Int.le_refl _,by simp⟩ ?_
  rintro⟨a,out⟩ ⟨i1,i2,i3⟩
  dsimp only at i1 i2 i3|-
  simp only[ywa,ywb,ywc,ywd,ywe,yhw,yhx,yhv,yhy,yhz,yhb,yhc,yhd,yhu,yhe,yhf,yhg,yhh,yhi,yhj,yhk,yhl,yhm,yhn,yho,yhp,Int.tdiv_eq_ediv_of_nonneg i1,Int.tmod_eq_emod_of_nonneg i1,List.length_map,yhs,yht,yhr]
  refine⟨fun hp=>?_,fun hp=>?_⟩<;>(repeat' (first|trivial|omega|refine⟨?_,?_⟩))
 obtain⟨t,h,_⟩:=this
 unfold mkT
 rw[h];rfl
theorem zoC{α:Type}(A:List α)(x y:α)(B:List α){i:Nat}(h:A.length=i):(A++x:: B).set i y=A++y:: B:=by
 subst h
 rw[List.set_append_right _ _ (Nat.le_refl _),Nat.sub_self]
 rfl
theorem zh4{α:Type}(f:Nat->α)(i:Nat):(List.range (i+1)).map f=(List.range i).map f++[f i]:=by
 rw[List.range_succ,List.map_append];rfl
theorem zlL{xs:List (List UInt8)}{k:Int}(h0:0<=k)(h1:k+xs.length<=MM):zaF (k,xs)=some (k+xs.length,(List.range xs.length).map fun j:Nat=>mkT (k+j)):=by
 have hM:MM=1099511627776:=rfl
 rw[zcr];unfold zaP;dsimp only
 rw[zry (s0:=(k,(0:Int),xs)) xs.length (fun i=>(k+(i:Int),(i:Int),((List.range i).map fun j:Nat=>mkT (k+j))++xs.drop i)) (k+(xs.length:Int),(xs.length:Int),(List.range xs.length).map fun j:Nat=>mkT (k+j)) (by simp) ?_ ?_]
 ·intro i hi
  have hlen:(((List.range i).map fun j:Nat=>mkT (k+j))++xs.drop i).length=xs.length:=by simp;omega
  have hi':i<(((List.range i).map fun j:Nat=>mkT (k+j))++xs.drop i).length:=by omega
  have g3:zbg (k+(i:Int)+1)=true:=zbu (by omega) (by omega)
  have g4:zbg ((i:Int)+1)=true:=zbu (by omega) (by omega)
  dsimp only
  rw[hlen]
  simp only[znQ hi,zfi,zdh (k:=k+(i:Int)) (by omega) (by omega),zby,znR,Bool.and_self,zju,ygb hi',g3,g4,Int.toNat_natCast]
  rw[List.drop_eq_getElem_cons hi,zoC _ _ _ _ (by simp),zh4]
  simp[Int.add_assoc]
 ·dsimp only
  rw[List.drop_length,List.append_nil,List.length_map,List.length_range]
  simp only[zjv,zbG]
theorem zob{α:Type}{xs:List α}{w:α->Nat}{b:Int×Int×List α->Option ((Int×Int×List α)⊕(Int×Int×List α))}{k:Int}(h0:0<=k)(h1:k+7*((xs.length+(xs.map w).sum:Nat):Int)<=MM)
  (hb:∀(k:Int)(i:Nat)(ys:List α)(hi:i<ys.length),ys.length=xs.length->ys[i]∈xs->0<=k->k+7*((1+w ys[i]:Nat):Int)<=MM->∃k' y',b (k,(i:Int),ys)=some (.inl (k',((i+1:Nat):Int),ys.set i y'))/\k<=k'/\k'<=k+7*((1+w ys[i]:Nat):Int))
  (he:∀(k:Int)(ys:List α),ys.length=xs.length->b (k,(xs.length:Int),ys)=some (.inr (k,(xs.length:Int),ys))):
  ∃k' ys',za4 b (k,(0:Int),xs)=some (k',(xs.length:Int),ys')/\k<=k'/\k'<=k+7*((xs.length+(xs.map w).sum:Nat):Int)/\ys'.length=xs.length:=by
 have key:∀(m i:Nat)(k1:Int)(ys:List α),m+i=xs.length->ys.length=xs.length->(∀(j:Nat)(hj:j<xs.length)(hj2:j<ys.length),i<=j->ys[j]=xs[j])->0<=k1->k1+7*(((xs.drop i).length+((xs.drop i).map w).sum:Nat):Int)<=MM->
   ∃f k' ys',zbQ b f (k1,(i:Int),ys)=some (k',(xs.length:Int),ys')/\k1<=k'/\k'<=k1+7*(((xs.drop i).length+((xs.drop i).map w).sum:Nat):Int)/\ys'.length=xs.length:=by
  intro m
  induction m with
  | zero =>
   intro i k1 ys hm hl _ g0 g1
   have:i=xs.length:=by omega
   subst this
   exact⟨1,k1,ys,by simp only[zbQ,he k1 ys hl],Int.le_refl _,by omega,hl⟩
  | succ m ih =>
   intro i k1 ys hm hl hsame g0 g1
   have hi:i<xs.length:=by omega
   have hi':i<ys.length:=by omega
   have hy:=hsame i hi hi' (Nat.le_refl _)
   have e:(xs.drop i).length+((xs.drop i).map w).sum=(1+w ys[i])+((xs.drop (i+1)).length+((xs.drop (i+1)).map w).sum):=by
    rw[List.drop_eq_getElem_cons hi,yhs,List.map_cons,List.sum_cons,hy];omega
   rw[e]at g1|-
   obtain⟨k',y',q1,q2,q3⟩:=hb k1 i ys hi' hl (by rw[hy];exact ygh hi) g0 (by omega)
   obtain⟨f,k2,ys2,r1,r2,r3,r4⟩:=ih (i+1) k' (ys.set i y') (by omega) (by simpa using hl) (fun j hj hj2 hij=>by
    rw[List.getElem_set_ne (by omega)]
    exact hsame j hj (by simpa using hj2) (by omega)) (by omega) (by omega)
   exact⟨f+1,k2,ys2,by simp only[zbQ,q1];exact r1,by omega,by omega,r4⟩
 obtain⟨f,k',ys',r1,r2,r3,r4⟩:=key xs.length 0 k xs (by omega) rfl (fun _ _ _ _=>rfl) h0 (by simpa using h1)
 exact⟨k',ys',zgw r1,r2,by simpa using r3,r4⟩
theorem zjP{α:Type}{xs:List α}{w:α->Nat}{b:Int×Int×List α->Option ((Int×Int×List α)⊕(Int×Int×List α))}{k:Int}(h0:0<=k)(h1:k+7*((xs.length+(xs.map w).sum:Nat):Int)<=MM)
  (hb:∀(k:Int)(i:Nat)(ys:List α)(hi:i<ys.length),ys.length=xs.length->ys[i]∈xs->0<=k->k+7*((1+w ys[i]:Nat):Int)<=MM->∃k' y',b (k,(i:Int),ys)=some (.inl (k',((i+1:Nat):Int),ys.set i y'))/\k<=k'/\k'<=k+7*((1+w ys[i]:Nat):Int))
  (he:∀(k:Int)(ys:List α),ys.length=xs.length->b (k,(xs.length:Int),ys)=some (.inr (k,(xs.length:Int),ys))):
  ∃k' ys',zaa (za4 b (k,(0:Int),xs)) (fun x=>some (x.1,x.2.2))=some (k',ys')/\k<=k'/\k'<=k+7*((xs.length+(xs.map w).sum:Nat):Int)/\ys'.length=xs.length:=by
 obtain⟨k',ys,r1,r2⟩:=zob h0 h1 hb he
 exact⟨k',ys,by rw[r1];rfl,r2⟩
theorem znU{α:Type}{l m:Nat}{x:Option α}(h:l=m):gd (decide (l=m)) x=x:=by subst h;simp[gd]
end Go.Fw
namespace Go.Fw
open Go
set_option linter.unusedSimpArgs false
set_option linter.unusedVariables false
inductive KSel (N:Nat):Sel->Prop
 | mk {x:Sel}(h1:x.as.length<=N)(h2:x.name.length<=N)(h3:x.kids.length<=N)(h4:∀k∈x.kids,KSel N k):KSel N x
def KSels(N:Nat)(l:List Sel):Prop:=l.length<=N/\∀x∈l,KSel N x
theorem KSel.kids{N:Nat}{x:Sel}(h:KSel N x):KSels N x.kids:=by cases h with|mk _ _ h3 h4=>exact⟨h3,h4⟩
mutual
def zq2:Sel->Nat
 | .mk _ _ _ _ ks=>zf2 ks
def zf2:List Sel->Nat
 | []=>0
 | x:: xs=>1+zq2 x+zf2 xs
end
theorem zlI(xs:List Sel):zf2 xs=xs.length+(xs.map zq2).sum:=by
 induction xs with
 | nil=>rfl
 | cons x xs ih=>simp only[zf2,yhs,List.map_cons,List.sum_cons,ih];omega
theorem zoa(x:Sel):zq2 x=zf2 x.kids:=by cases x;simp[zq2]
theorem Sel.sz(x:Sel):SizeOf.sizeOf x.kids<SizeOf.sizeOf x:=by cases x;simp[Sel.kids];omega
theorem zhi{x:Sel}{xs:List Sel}(h:x∈xs):SizeOf.sizeOf x<SizeOf.sizeOf xs:=List.sizeOf_lt_of_mem h
theorem zmP(n:Nat):(∀d,Le (zbc n d) (zbc (n+1) d))/\(∀d,Le (zaM n d) (zaM (n+1) d)):=by
 induction n with
 | zero=>exact⟨fun d=>Le.none,fun d=>Le.none⟩
 | succ n ih =>
  obtain⟨ih1,ih2⟩:=ih
  have ih3:=ih2
  refine⟨fun d=>?_,fun d=>?_⟩
  ·rw[zbc,zbc]
   repeat' (first|exact ih1 _|exact ih2 _|exact ih3 _|refine Le.bind ?_ ?_|refine Le.cond ?_ ?_|refine Le.gd ?_|refine Le.caseS ?_ ?_|refine Le.loop ?_ _|exact Le.refl _|refine fun _=>?_)
  ·rw[zaM,zaM]
   repeat' (first|exact ih1 _|exact ih2 _|exact ih3 _|refine Le.bind ?_ ?_|refine Le.cond ?_ ?_|refine Le.gd ?_|refine Le.caseS ?_ ?_|refine Le.loop ?_ _|exact Le.refl _|refine fun _=>?_)
theorem zmQ(n:Nat):(∀d,Le (zbd n d) (zbd (n+1) d))/\(∀d,Le (zaN n d) (zaN (n+1) d)):=by
 induction n with
 | zero=>exact⟨fun d=>Le.none,fun d=>Le.none⟩
 | succ n ih =>
  obtain⟨ih1,ih2⟩:=ih
  have ih3:=ih2
  refine⟨fun d=>?_,fun d=>?_⟩
  ·rw[zbd,zbd]
   repeat' (first|exact ih1 _|exact ih2 _|exact ih3 _|refine Le.bind ?_ ?_|refine Le.cond ?_ ?_|refine Le.gd ?_|refine Le.caseS ?_ ?_|refine Le.loop ?_ _|exact Le.refl _|refine fun _=>?_)
  ·rw[zaN,zaN]
   repeat' (first|exact ih1 _|exact ih2 _|exact ih3 _|refine Le.bind ?_ ?_|refine Le.cond ?_ ?_|refine Le.gd ?_|refine Le.caseS ?_ ?_|refine Le.loop ?_ _|exact Le.refl _|refine fun _=>?_)
theorem zma(n:Nat):(∀d,Le (zbb n d) (zbb (n+1) d))/\(∀d,Le (zaL n d) (zaL (n+1) d)):=by
 induction n with
 | zero=>exact⟨fun d=>Le.none,fun d=>Le.none⟩
 | succ n ih =>
  obtain⟨ih1,ih2⟩:=ih
  have ih3:=ih2
  refine⟨fun d=>?_,fun d=>?_⟩
  ·rw[zbb,zbb]
   repeat' (first|exact ih1 _|exact ih2 _|exact ih3 _|refine Le.bind ?_ ?_|refine Le.cond ?_ ?_|refine Le.gd ?_|refine Le.caseS ?_ ?_|refine Le.loop ?_ _|exact Le.refl _|refine fun _=>?_)
  ·rw[zaL,zaL]
   repeat' (first|exact ih1 _|exact ih2 _|exact ih3 _|refine Le.bind ?_ ?_|refine Le.cond ?_ ?_|refine Le.gd ?_|refine Le.caseS ?_ ?_|refine Le.loop ?_ _|exact Le.refl _|refine fun _=>?_)
theorem zjO(n:Nat):∀d,Le (zax n d) (zax (n+1) d):=by
 induction n with
 | zero=>exact fun d=>Le.none
 | succ n ih =>
  intro d
  rw[zax,zax]
  repeat' (first|exact ih _|refine Le.bind ?_ ?_|refine Le.cond ?_ ?_|refine Le.gd ?_|refine Le.caseS ?_ ?_|refine Le.loop ?_ _|exact Le.refl _|refine fun _=>?_)
theorem zoP(n:Nat):(∀(x:Sel)(l:Int),SizeOf.sizeOf x<=n->KSel BIG x->0<=l->l<=(KK:Int)->wp (zbc n (x,l)) (Sz l (KSel KK x) (zq2 x)))/\
  ∀(xs:List Sel)(l:Int),SizeOf.sizeOf xs<=n->KSels BIG xs->0<=l->l<=(KK:Int)->wp (zaM n (xs,l)) (Sz l (KSels KK xs) (zf2 xs)):=by
 have hB:BIG=9223372036854775807:=rfl
 have hk:(KK:Int)=1048576:=rfl
 induction n with
 | zero=>exact⟨fun x l h=>by cases x;simp at h,fun xs l h=>by cases xs<;>simp at h⟩
 | succ n ih =>
  obtain⟨ih1,ih2⟩:=ih
  refine⟨fun x l h hm h0 h1=>?_,fun xs l h hm h0 h1=>?_⟩
  ·have hs:=Sel.sz x
   have hkk:=hm.kids
   cases hm with
   | mk a1 a2 a3 a4 =>
    rw[zbc]
    dsimp only
    rw[ywa,ywc,ywd,ywa,ywc,ywd,ywb]
    simp only[yhc,yhd,yhu]
    refine⟨by omega,fun _=>⟨by omega,by omega,fun h=>by omega⟩,fun h2=>⟨by omega,fun _=>⟨by omega,by omega,fun h=>by omega⟩,fun h3=>(ih2 x.kids _ (by omega) hkk (by omega) (by omega)).mono fun r hr=>?_⟩⟩
    exact hr.end (by omega) (zoa x) fun hq=>.mk (by show _<=1048576;omega) (by show _<=1048576;omega) hq.1 hq.2
  ·rw[zaM]
   dsimp only
   rw[zlI]
   exact zoR (g:=zbc n) hm.1 (fun x hx l h0 h1=>ih1 x l (by have:=zhi hx;omega) (hm.2 x hx) h0 h1) h0 h1
theorem zoQ{xs:List Sel}{l:Int}(hm:KSels BIG xs)(h0:0<=l)(h1:l<=(KK:Int)):wp (zfA (xs,l)) (Sz l (KSels KK xs) (zf2 xs)):=
 zsG (fun n=>(zmP n).2) ((zoP (SizeOf.sizeOf xs)).2 xs l (Nat.le_refl _) hm h0 h1)
theorem zoS(n:Nat):(∀(x:Sel),SizeOf.sizeOf x<=n->KSel KK x->zbd n x=some ((x.as,x.name,x.one,x.id),x.kids))/\∀(xs:List Sel),SizeOf.sizeOf xs<=n->KSels KK xs->zaN n xs=some xs:=by
 induction n with
 | zero=>exact⟨fun x h=>by cases x;simp at h,fun xs h=>by cases xs<;>simp at h⟩
 | succ n ih =>
  obtain⟨ih1,ih2⟩:=ih
  refine⟨fun x h hm=>?_,fun xs h hm=>?_⟩
  ·have hs:=Sel.sz x
   rw[zbd,ih2 x.kids (by omega) hm.kids]
   rfl
  ·rw[zaN]
   exact ziR (g:=zbd n) (mk:=fun x=>Sel.mk x.1.1 x.1.2.1 x.1.2.2.1 x.1.2.2.2 x.2) hm.1 (fun x hx=>⟨_,ih1 x (by have:=zhi hx;omega) (hm.2 x hx),by simp⟩)
theorem zoT{xs:List Sel}(h:KSels KK xs):zfB xs=some xs:=zin (fun n=>(zmQ n).2) ((zoS (SizeOf.sizeOf xs)).2 xs (Nat.le_refl _) h)
theorem znI(n:Nat):(∀(x:Sel),SizeOf.sizeOf x<=n->KSel KK x->zbb n (x,x)=some true)/\∀(xs:List Sel),SizeOf.sizeOf xs<=n->KSels KK xs->zaL n (xs,xs)=some true:=by
 induction n with
 | zero=>exact⟨fun x h=>by cases x;simp at h,fun xs h=>by cases xs<;>simp at h⟩
 | succ n ih =>
  obtain⟨ih1,ih2⟩:=ih
  refine⟨fun x h hm=>?_,fun xs h hm=>?_⟩
  ·have hs:=Sel.sz x
   rw[zbb]
   dsimp only
   rw[ih2 x.kids (by omega) hm.kids]
   simp only[bne_self_eq_false,zbG,zby];rfl
  ·rw[zaL]
   dsimp only
   exact zic (g:=zbb n) hm.1 (fun x hx=>ih1 x (by have:=zhi hx;omega) (hm.2 x hx))
theorem znJ{xs:List Sel}(h:KSels KK xs):zfz (xs,xs)=some true:=zin (fun n=>(zma n).2) ((znI (SizeOf.sizeOf xs)).2 xs (Nat.le_refl _) h)
theorem zkI(n:Nat):∀(xs:List Sel)(k:Int),SizeOf.sizeOf xs<=n->0<=k->k+7*(zf2 xs:Int)<=MM->∃k' ys,zax n (k,xs)=some (k',ys)/\k<=k'/\k'<=k+7*(zf2 xs:Int)/\ys.length=xs.length:=by
 have hM:MM=1099511627776:=rfl
 induction n with
 | zero=>exact fun xs k h=>by cases xs<;>simp at h
 | succ n ih =>
  intro xs k h h0 h1
  rw[zax]
  dsimp only
  rw[zlI]at h1|-
  have hx:xs.length<=xs.length+(xs.map zq2).sum:=Nat.le_add_right _ _
  refine zjP (xs:=xs) (w:=zq2) (k:=k) h0 h1 ?_ ?_
  ·intro k i ys hi hl hm g0 g1
   have g4:zbg ((i:Int)+1)=true:=zbu (by omega) (by omega)
   have hs:=Sel.sz ys[i]
   have hs2:=zhi hm
   have e:=zoa ys[i]
   obtain⟨k',zs,q1,q2,q3,q4⟩:=ih ys[i].kids (k+1+1+1+1) (by omega) (by omega) (by omega)
   simp only[List.length_set,znQ hi,zfi,zdh (k:=k) g0 (by omega),zdh (k:=k+1) (by omega) (by omega),zby,znR,Bool.and_self,zju,ygb hi,Int.toNat_natCast,List.getElem?_set_self hi,List.set_set,
    Sel.as_mk,Sel.name_mk,Sel.one_mk,Sel.id_mk,Sel.kids_mk,
    show zbg (k+1)=true from zbu (by omega) (by omega),show zbg (k+1+1)=true from zbu (by omega) (by omega),show zbg (k+1+1+1)=true from zbu (by omega) (by omega),show zbg (k+1+1+1+1)=true from zbu (by omega) (by omega),q1,znU q4,g4]
   exact⟨k',_,zs2 (decide_eq_true q4),by omega,by omega⟩
  ·intro k ys hl
   simp only[hl,zjv,zbG]
theorem zkJ{xs:List Sel}{k:Int}(h0:0<=k)(h1:k+7*(zf2 xs:Int)<=MM):∃k' ys,zdI (k,xs)=some (k',ys)/\k<=k'/\k'<=k+7*(zf2 xs:Int)/\ys.length=xs.length:=by
 obtain⟨k',ys,q1,q2⟩:=zkI (SizeOf.sizeOf xs) xs k (Nat.le_refl _) h0 h1
 exact⟨k',ys,zin zjO q1,q2⟩
def KI(N:Nat)(l:List Int):Prop:=l.length<=N
theorem zsD{xs:List Int}{l:Int}(hm:KI BIG xs)(h0:0<=l)(h1:l<=(KK:Int)):wp (zcI (xs,l)) (Sz l (KI KK xs) xs.length):=by
 have hB:BIG=9223372036854775807:=rfl
 have hk:(KK:Int)=1048576:=rfl
 unfold KI at hm
 rw[ze0];unfold zcD;dsimp only
 simp only[ywa,ywb,ywc,ywd,ywe,yhw,yhx,yhv,yhy,yhz,yhb,yhc,yhd,yhu,yhe,yhf,yhg,yhh,yhi,yhj,yhk,yhl,yhm,yhn,yho,yhp]
 exact⟨by omega,fun _=>⟨by omega,by omega,fun h=>by omega⟩,fun hn=>⟨by omega,by omega,fun _=>⟨by show xs.length<=1048576;omega,by omega⟩⟩⟩
theorem zsE{xs:List Int}(h:KI KK xs):zcJ xs=some xs:=by
 rw[ze2];unfold zcF
 exact ziR (g:=fun x=>some x) (mk:=fun x=>x) h (fun _ _=>⟨_,rfl,rfl⟩)
theorem zpZ{xs:List Int}(h:xs.length<=KK):zaZ (xs,xs)=some true:=by
 rw[zeY];unfold zcB;dsimp only
 have:=zic (xs:=xs) (g:=fun x=>some (x.1==x.2)) h (fun _ _=>by simp)
 exact this
theorem zlK{xs:List Int}{k:Int}(h0:0<=k)(h1:k+xs.length<=MM):zbm (k,xs)=some (k+xs.length,(List.range xs.length).map fun j:Nat=>k+j):=by
 have hM:MM=1099511627776:=rfl
 rw[zdF];unfold zbK;dsimp only
 rw[zry (s0:=(k,(0:Int),xs)) xs.length (fun i=>(k+(i:Int),(i:Int),((List.range i).map fun j:Nat=>k+j)++xs.drop i)) (k+(xs.length:Int),(xs.length:Int),(List.range xs.length).map fun j:Nat=>k+j) (by simp) ?_ ?_]
 ·intro i hi
  have hlen:(((List.range i).map fun j:Nat=>k+j)++xs.drop i).length=xs.length:=by simp;omega
  have hi':i<(((List.range i).map fun j:Nat=>k+(j:Int))++xs.drop i).length:=by omega
  have g3:zbg (k+(i:Int)+1)=true:=zbu (by omega) (by omega)
  have g4:zbg ((i:Int)+1)=true:=zbu (by omega) (by omega)
  dsimp only
  rw[hlen]
  simp only[znQ hi,zfi,zby,znR,Bool.and_self,zju,ygb hi',g3,g4,Int.toNat_natCast]
  rw[List.drop_eq_getElem_cons hi,zoC _ _ _ _ (by simp),zh4]
  simp[Int.add_assoc]
 ·dsimp only
  rw[List.drop_length,List.append_nil,List.length_map,List.length_range]
  simp only[zjv,zbG]
theorem zpi{n:Nat}{k:Int}(h0:0<=k)(h1:k+n<=MM):zbl ((List.range n).map (fun j:Nat=>k+(j:Int)),k)=some (k+n):=by
 have hM:MM=1099511627776:=rfl
 rw[zdE];unfold zbJ;dsimp only
 have hlen:((List.range n).map (fun j:Nat=>k+(j:Int))).length=n:=by simp
 rw[hlen,zry (s0:=(k,(0:Int))) n (fun i=>(k+(i:Int),(i:Int))) (.inl (k+(n:Int),(n:Int))) (by simp) ?_ ?_]
 ·rfl
 ·intro i hi
  have hi':i<((List.range n).map (fun j:Nat=>k+(j:Int))).length:=by omega
  have g3:zbg (k+(i:Int)+1)=true:=zbu (by omega) (by omega)
  have g4:zbg ((i:Int)+1)=true:=zbu (by omega) (by omega)
  have g5:((List.range n).map (fun j:Nat=>k+(j:Int)))[i]=k+i:=by simp
  simp only[znQ hi,zfi,znR,zju,zrT hi',zby,g5,bne_self_eq_false,zbG,g3,g4]
  simp[Int.add_assoc]
 ·simp only[zjv,zbG]
structure KStp (N:Nat)(s:Stp):Prop where
 way:KS N s.way
 type:s.type.length<=N
 sels:KSels N s.sels
 after:KI N s.after
 brings:KS N s.brings
def KSt(N:Nat)(l:List Stp):Prop:=l.length<=N/\∀s∈l,KStp N s
def zr6(s:Stp):Nat:=mS s.way+zf2 s.sels+s.after.length+mS s.brings
def mSt(l:List Stp):Nat:=l.length+(l.map zr6).sum
theorem zpO{x:Stp}{l:Int}(hm:KStp BIG x)(h0:0<=l)(h1:l<=(KK:Int)):wp (zb2 (x,l)) (Sz l (KStp KK x) (zr6 x)):=by
 have hB:BIG=9223372036854775807:=rfl
 have hk:(KK:Int)=1048576:=rfl
 obtain⟨a1,a2,a3,a4,a5⟩:=hm
 rw[ze1];unfold zcE;dsimp only
 rw[ywb]
 refine(zqn a1 h0 h1).mono fun r1 ⟨b1,b2,b3⟩=>?_
 rw[ywc,ywd]
 simp only[yhc,yhd]
 refine⟨fun _=>⟨by omega,by omega,fun h=>by omega⟩,fun c1=>?_⟩
 rw[ywa,ywc,ywd]
 simp only[yhc,yhd,yhu]
 refine⟨by omega,fun _=>⟨by omega,by omega,fun h=>by omega⟩,fun c2=>?_⟩
 rw[ywb]
 refine(zoQ a3 (by omega) (by omega)).mono fun r2 ⟨d1,d2,d3⟩=>?_
 rw[ywc,ywd]
 simp only[yhc,yhd]
 refine⟨fun _=>⟨by omega,by omega,fun h=>by omega⟩,fun c3=>?_⟩
 rw[ywb]
 refine(zsD a4 (by omega) (by omega)).mono fun r3 ⟨e1,e2,e3⟩=>?_
 rw[ywc,ywd]
 simp only[yhc,yhd]
 refine⟨fun _=>⟨by omega,by omega,fun h=>by omega⟩,fun c4=>?_⟩
 rw[ywb]
 refine(zqn a5 (by omega) (by omega)).mono fun r4 ⟨f1,f2,f3⟩=>?_
 rw[ywc,ywd,ywd]
 simp only[yhc,yhd]
 refine⟨fun _=>⟨by omega,by omega,fun h=>by omega⟩,fun c5=>⟨by omega,by omega,fun _=>?_⟩⟩
 obtain⟨b4,b5⟩:=b3 (by omega)
 obtain⟨d4,d5⟩:=d3 (by omega)
 obtain⟨e4,e5⟩:=e3 (by omega)
 obtain⟨f4,f5⟩:=f3 (by omega)
 refine⟨⟨b4,by show _<=1048576;omega,d4,e4,f4⟩,?_⟩
 unfold zr6
 omega
theorem zpP{xs:List Stp}{l:Int}(hm:KSt BIG xs)(h0:0<=l)(h1:l<=(KK:Int)):wp (zca (xs,l)) (Sz l (KSt KK xs) (mSt xs)):=by
 rw[zew];unfold zb7;dsimp only
 exact zoR (g:=zb2) hm.1 (fun x hx l h0 h1=>zpO (hm.2 x hx) h0 h1) h0 h1
theorem zpR{x:Stp}(h:KStp KK x):zb3 x=some ((x.part,x.type),x.way,x.sels,x.after,x.brings):=by
 rw[ze3];unfold zcG
 rw[zqo h.way,zby,zoT h.sels,zby,zsE h.after,zby,zqo h.brings,zby]
theorem zpS{xs:List Stp}(h:KSt KK xs):zaR xs=some xs:=by
 rw[zex];unfold zb8
 exact ziR (g:=zb3) (mk:=fun x=>⟨x.1.1,x.2.1,x.1.2,x.2.2.1,x.2.2.2.1,x.2.2.2.2⟩) h.1 (fun x hx=>⟨_,zpR (h.2 x hx),rfl⟩)
theorem zo8{x:Stp}(h:KStp KK x):zb1 (x,x)=some true:=by
 rw[zeZ];unfold zcC;dsimp only
 rw[zp0 h.way,znJ h.sels,zpZ h.after,zp0 h.brings];simp only[bne_self_eq_false,zbG,zby,Bool.not_true]
theorem zo9{xs:List Stp}(h:KSt KK xs):zb9 (xs,xs)=some true:=by
 rw[zev];unfold zb6;dsimp only
 exact zic (g:=zb1) h.1 (fun x hx=>zo8 (h.2 x hx))
theorem zmD{xs:List Stp}{k:Int}(h0:0<=k)(h1:k+7*(mSt xs:Int)<=MM):∃k' ys,zbs (k,xs)=some (k',ys)/\k<=k'/\k'<=k+7*(mSt xs:Int)/\ys.length=xs.length:=by
 have hM:MM=1099511627776:=rfl
 have hx:xs.length<=mSt xs:=Nat.le_add_right _ _
 rw[zdp];unfold zbp;dsimp only
 refine zjP (xs:=xs) (w:=zr6) (k:=k) h0 h1 ?_ ?_
 ·intro k i ys hi hl hm g0 g1
  have g4:zbg ((i:Int)+1)=true:=zbu (by omega) (by omega)
  have e:zr6 ys[i]=ys[i].way.length+zf2 ys[i].sels+ys[i].after.length+ys[i].brings.length:=rfl
  obtain⟨k2,zs,q1,q2,q3,q4⟩:=zkJ (xs:=ys[i].sels) (k:=k+1+ys[i].way.length+1) (by omega) (by omega)
  simp only[List.length_set,znQ hi,zfi,zby,znR,Bool.and_self,zju,ygb hi,Int.toNat_natCast,List.getElem?_set_self hi,List.set_set,show zbg (k+1)=true from zbu (by omega) (by omega),
   zlL (xs:=ys[i].way) (k:=k+1) (by omega) (by omega),List.length_map,List.length_range,znU rfl,zdh (k:=k+1+ys[i].way.length) (by omega) (by omega),show zbg (k+1+ys[i].way.length+1)=true from zbu (by omega) (by omega),q1,znU q4,
   zlK (xs:=ys[i].after) (k:=k2) (by omega) (by omega),zlL (xs:=ys[i].brings) (k:=k2+ys[i].after.length) (by omega) (by omega),g4]
  exact⟨_,_,rfl,by omega,by omega⟩
 ·intro k ys hl
  simp only[hl,zjv,zbG]
end Go.Fw
namespace Go.Fw
open Go
theorem zoV{α U:Type}{x:Option α}{f:α->Option U}{Q:U->Prop}(R:α->Prop)(h:wp x R)(hf:∀a,R a->wp (f a) Q):wp (zaa x f) Q:=ywb.2 (h.mono hf)
def Srt(l:List Int):Prop:=l.Pairwise (· < ·)
theorem Srt.ext:∀{a b:List Int},Srt a->Srt b->(∀x,x∈a↔x∈b)->a=b
 | [],[],_,_,_=>rfl
 | [],y:: b,_,_,h=>by have:=(h y).2 (by simp);simp at this
 | x:: a,[],_,_,h=>by have:=(h x).1 (by simp);simp at this
 | x:: a,y:: b,ha,hb,h=>by
  obtain⟨h1,h2⟩:=List.pairwise_cons.1 ha
  obtain⟨h3,h4⟩:=List.pairwise_cons.1 hb
  have e:x=y:=by
   rcases List.mem_cons.1 ((h x).1 (by simp))with e|e
   ·exact e
   rcases List.mem_cons.1 ((h y).2 (by simp))with e'|e'
   ·exact e'.symm
   have:=h3 _ e;have:=h1 _ e';omega
  subst e
  rw[Srt.ext h2 h4 fun z=>?_]
  have hz:=h z
  simp only[List.mem_cons]at hz
  constructor
  ·intro hz'
   rcases hz.1 (.inr hz')with rfl|h'
   ·have:=h1 _ hz';omega
   ·exact h'
  ·intro hz'
   rcases hz.2 (.inr hz')with rfl|h'
   ·have:=h3 _ hz';omega
   ·exact h'
theorem zk0{zs:List Int}(h:zs.Pairwise (·<=·)){i j:Nat}(hij:i<=j)(hj:j<zs.length):zs[i]'(by omega)<=zs[j]:=by
 rcases Nat.lt_or_ge i j with h'|h'
 ·exact List.pairwise_iff_getElem.1 h i j (by omega) hj h'
 ·obtain rfl:i=j:=by omega
  exact Int.le_refl _
theorem zkp{zs:List Int}(h:zs.Pairwise (·<=·)):Srt (Lib.compact zs)/\∀x,x∈Lib.compact zs↔x∈zs:=by
 have g:∀j (hj:j<zs.length),zs.toArray[j]! =zs[j]:=fun j hj=>by simp[hj]
 constructor
 ·unfold Lib.compact Lib.compactUpTo Srt
  rw[List.pairwise_map]
  refine(List.Pairwise.filter _ List.pairwise_lt_range).imp_of_mem fun{a b} ha hb hab=>?_
  obtain⟨ha1,ha2⟩:=List.mem_filter.1 ha
  obtain⟨hb1,hb2⟩:=List.mem_filter.1 hb
  have ha1:=List.mem_range.1 ha1
  have hb1:=List.mem_range.1 hb1
  have hne:zs.toArray[b]!≠zs.toArray[b-1]!:=by
   intro e
   rw[Lib.keeps_neg (by omega) e]at hb2
   cases hb2
  rw[g b hb1,g (b-1) (by omega)]at hne
  rw[g a ha1,g b hb1]
  have h1:=zk0 h (show a<=b-1 by omega) (by omega)
  have h2:=zk0 h (show b-1<=b by omega) hb1
  omega
 ·intro x
  refine⟨zgH zs x,fun hx=>?_⟩
  obtain⟨j,hj,rfl⟩:=List.getElem_of_mem hx
  have:∀k,∀i (hi:i<zs.length),i<=k->zs[i]∈Lib.compact zs:=by
   intro k
   induction k with
   | zero =>
    intro i hi hk
    obtain rfl:i=0:=by omega
    unfold Lib.compact Lib.compactUpTo
    refine List.mem_map.2 ⟨0,List.mem_filter.2 ⟨List.mem_range.2 hi,Lib.keeps_lt_one _ 0 (by omega)⟩,g 0 hi⟩
   | succ k ih =>
    intro i hi hk
    by_cases hle:i<=k
    ·exact ih i hi hle
    ·by_cases hne:zs.toArray[i]!≠zs.toArray[i-1]!
     ·unfold Lib.compact Lib.compactUpTo
      exact List.mem_map.2 ⟨i,List.mem_filter.2 ⟨List.mem_range.2 hi,Lib.keeps_pos hne⟩,g i hi⟩
     ·have e:zs.toArray[i]! =zs.toArray[i-1]!:=Decidable.not_not.1 hne
      rw[g i hi,g (i-1) (by omega)]at e
      rw[e]
      exact ih (i-1) (by omega) (by omega)
  exact this j j hj (Nat.le_refl _)
structure PartsOf (st:List Stp)(l:List Int):Prop where
 srt:Srt l
 mem:∀x,x∈l↔∃s∈st,s.part=x
 len:l.length<=st.length
theorem zie{st:List Stp}{Q:List Int->Prop}(hl:st.length<=3000000000)(h:∀l,PartsOf st l->Q l):wp (zaE st) Q:=by
 have hL:LIM=1099511627776:=rfl
 rw[zcH];unfold zba
 rw[ywb]
 refine zd8 (fun s:Int×List Int=>0<=s.1/\s.1<=st.length/\s.2=(st.take s.1.toNat).map fun x=>x.part) (fun s=>st.length-s.1.toNat) ⟨by simp,by simp,by simp⟩ fun s ⟨i1,i2,i3⟩=>?_
 rw[ywc]
 simp only[yhc,yhd]
 refine⟨fun hlt=>?_,fun hge=>?_⟩
 ·rw[ywa,ywb,ywe]
  refine⟨by simpa using i1,by omega,?_⟩
  simp only[ywa,ywb,ywc,ywd,ywe,yhw,yhx,yhv,yhy,yhz,yhb,yhc,yhd,yhu,yhe,yhf,yhg,yhh,yhi,yhj,yhk,yhl,yhm,yhn,yho,yhp]
  have e1:s.2.length=s.1.toNat:=by rw[i3];simp;omega
  have e2:(s.1+1).toNat=s.1.toNat+1:=by omega
  refine⟨by rw[e1];simp;omega,by omega,⟨by omega,by omega,?_⟩,by omega⟩
  rw[e2,List.take_succ_eq_append_getElem (by omega),List.map_append,i3]
  rfl
 ·have e:s.1.toNat=st.length:=by omega
  rw[e,List.take_length]at i3
  simp only[ywd,yhz]
  rw[i3]
  have hsort:∀zs:List Int,zs.length<4611686018427387904->zaC zs=some (zs.mergeSort fun x y=>decide (x<=y)):=fun zs hz=>by
   rw[zbj];unfold zas gd;simp[hz]
  have hcomp:∀zs:List Int,zs.length<=9223372036854775807->zau zs=some (Lib.compact zs):=fun zs hz=>by
   rw[zaQ];unfold zak gd;simp[hz]
  have hclone:∀zs:List Int,zs.length*8<=140737488355328->zaq zs=some zs:=fun zs hz=>by
   rw[zaJ];unfold zap gd;simp[hz]
  have hlm:((st.map fun x=>x.part).mergeSort fun x y=>decide (x<=y)).length=st.length:=by rw[List.length_mergeSort];simp
  have hpw:((st.map fun x=>x.part).mergeSort fun x y=>decide (x<=y)).Pairwise (·<=·):=by
   have:=List.pairwise_mergeSort (le:=fun x y:Int=>decide (x<=y)) (fun a b c h1 h2=>by simp at *;omega) (fun a b=>by simp;omega) (st.map fun x=>x.part)
   exact this.imp fun h=>of_decide_eq_true h
  have hmm:∀x,x∈((st.map fun x=>x.part).mergeSort fun x y=>decide (x<=y))↔∃s∈st,s.part=x:=fun x=>by rw[List.mem_mergeSort,List.mem_map]
  rw[ywb]
  refine⟨_,hsort _ (by simp;omega),?_⟩
  generalize(st.map fun x=>x.part).mergeSort (fun x y=>decide (x<=y))=zs at *
  rw[ywa,ywb]
  refine⟨by simp[hlm],_,hcomp _ (by omega),?_⟩
  have hcl:=zcN zs
  obtain⟨c1,c2⟩:=zkp hpw
  generalize Lib.compact zs=ys at *
  dsimp only
  rw[ywb]
  refine⟨_,hclone _ (by omega),?_⟩
  dsimp only
  rw[ywd]
  exact h _ ⟨c1,fun x=>(c2 x).trans (hmm x),by omega⟩
theorem ziP{st:List Stp}{Q:List Int->Prop}(hl:st.length<=3000000000)(h:∀l,PartsOf st l->Q l):wp (zbi st) Q:=by
 have hL:LIM=1099511627776:=rfl
 rw[zdD];unfold zbI
 rw[ywb]
 refine zd8 (fun s:Int×List Int=>0<=s.1/\s.1<=st.length/\PartsOf (st.take s.1.toNat) s.2) (fun s=>st.length-s.1.toNat) ⟨by simp,by simp,⟨List.Pairwise.nil,by simp,by simp⟩⟩ fun s ⟨i1,i2,i3⟩=>?_
 obtain⟨i,out⟩:=s
 dsimp only at i1 i2 i3|-
 have hol:=i3.len
 rw[List.length_take]at hol
 rw[ywc]
 simp only[yhc,yhd]
 refine⟨fun hlt=>?_,fun hge=>?_⟩
 ·have hi:i.toNat<st.length:=by omega
  generalize hp:(st[i.toNat]'hi).part=p
  rw[ywb]
  refine zd8 (fun k:Int=>0<=k/\k<=out.length/\∀(j:Nat)(hj:j<out.length),j<k.toNat->out[j]<p) (fun k=>out.length-k.toNat) ⟨by simp,by simp,by simp⟩ fun k ⟨k1,k2,k3⟩=>?_
  refine zoV (fun b=>(b=true->k<out.length)/\(∀hk:k.toNat<out.length,(b=true↔out[k.toNat]<p))) ?_ fun b ⟨hb1,hb2⟩=>?_
  ·rw[ywc]
   simp only[yhc,yhd]
   refine⟨fun hkl=>?_,fun hkl=>?_⟩
   ·rw[ywa,ywb,ywe]
    refine⟨by simp;omega,by omega,?_⟩
    rw[ywa,ywb,ywe]
    refine⟨by simpa using i1,hi,?_⟩
    rw[ywd,hp]
    exact⟨fun _=>hkl,fun _=>by simp⟩
   ·rw[ywd]
    exact⟨fun h=>(by cases h),fun hk=>absurd hk (by omega)⟩
  rw[ywc]
  refine⟨fun hbt=>?_,fun hbf=>?_⟩
  ·have hkl:=hb1 hbt
   simp only[ywa,ywb,ywc,ywd,ywe,yhw,yhx,yhv,yhy,yhz,yhb,yhc,yhd,yhu,yhe,yhf,yhg,yhh,yhi,yhj,yhk,yhl,yhm,yhn,yho,yhp]
   refine⟨by omega,⟨by omega,by omega,fun j hj hj2=>?_⟩,by omega⟩
   rcases Nat.lt_or_ge j k.toNat with h'|h'
   ·exact k3 j hj h'
   ·obtain rfl:j=k.toNat:=by omega
    exact(hb2 hj).1 hbt
  ·have hge:∀hk:k.toNat<out.length,p<=out[k.toNat]:=fun hk=>by
    have:=hb2 hk
    rw[hbf]at this
    simp at this
    exact this
   simp only[ywd,yhz]
   have e2:(i+1).toNat=i.toNat+1:=by omega
   have hmem:∀x,(∃s∈st.take (i+1).toNat,s.part=x)↔(x∈out\/x=p):=fun x=>by
    rw[i3.mem,e2,List.take_succ_eq_append_getElem hi]
    simp only[List.mem_append,List.mem_singleton]
    constructor
    ·rintro⟨s,h1|rfl,rfl⟩
     ·exact .inl ⟨s,h1,rfl⟩
     ·exact .inr hp
    ·rintro(⟨s,h1,rfl⟩|rfl)
     ·exact⟨s,.inl h1,rfl⟩
     ·exact⟨_,.inr rfl,hp⟩
   refine zoV (fun b=>(b=true->∀hk:k.toNat<out.length,out[k.toNat]≠p)/\(b=false->∃hk:k.toNat<out.length,out[k.toNat]=p)) ?_ fun b ⟨q1,q2⟩=>?_
   ·rw[ywc]
    simp only[yhe,yhg]
    refine⟨fun e=>?_,fun ne=>?_⟩
    ·rw[ywd]
     exact⟨fun _ hk=>absurd hk (by omega),fun h=>(by cases h)⟩
    ·rw[ywa,ywb,ywe]
     refine⟨by simp;omega,by omega,?_⟩
     rw[ywa,ywb,ywe]
     refine⟨by simpa using i1,hi,?_⟩
     rw[ywd,hp]
     simp only[yhf,yhh]
     exact⟨fun h _=>h,fun h=>⟨by omega,h⟩⟩
   refine zoV (fun l=>PartsOf (st.take (i+1).toNat) l) ?_ fun l hlp=>?_
   ·have hk0:k.toNat<=out.length:=by omega
    rw[ywc]
    refine⟨fun hbt=>?_,fun hbf=>?_⟩
    ·have t1:List.take (Int.toNat k-Int.toNat 0) (List.drop 0 out)=out.take k.toNat:=by simp
     have t2:List.take (Int.toNat (↑out.length:Int)-Int.toNat k) (List.drop (Int.toNat k) out)=out.drop k.toNat:=List.take_of_length_le (by simp)
     rw[t1,t2]
     simp only[ywa,ywb,ywc,ywd,ywe,yhw,yhx,yhv,yhy,yhz,yhb,yhc,yhd,yhu,yhe,yhf,yhg,yhh,yhi,yhj,yhk,yhl,yhm,yhn,yho,yhp,hp]
     refine⟨⟨⟨by omega,k1⟩,by omega⟩,by rw[List.length_take];omega,by simpa using i1,hi,by rw[List.length_take];simp;omega,⟨⟨k1,by omega⟩,by omega⟩,by simp;omega,?_⟩
     have hlast:∀x∈out.drop k.toNat,p<x:=fun x hx=>by
      obtain⟨j,hj,rfl⟩:=List.getElem_of_mem hx
      rw[List.getElem_drop]
      rw[List.length_drop]at hj
      have hk:k.toNat<out.length:=by omega
      have h1:=hge hk
      have h2:=q1 hbt hk
      have h3:out[k.toNat]<=out[k.toNat+j]'(by omega):=zk0 (i3.srt.imp fun h=>Int.le_of_lt h) (by omega) (by omega)
      omega
     have hfirst:∀x∈out.take k.toNat,x<p:=fun x hx=>by
      obtain⟨j,hj,rfl⟩:=List.getElem_of_mem hx
      rw[List.length_take]at hj
      rw[List.getElem_take]
      exact k3 j (by omega) (by omega)
     refine⟨?_,fun x=>?_,?_⟩
     ·unfold Srt
      rw[List.append_assoc,List.pairwise_append]
      refine⟨i3.srt.sublist (List.take_sublist _ _),?_,fun a ha b hb=>?_⟩
      ·rw[List.singleton_append,List.pairwise_cons]
       exact⟨hlast,i3.srt.sublist (List.drop_sublist _ _)⟩
      ·rcases List.mem_append.1 hb with hb|hb
       ·obtain rfl:=List.mem_singleton.1 hb
        exact hfirst a ha
       ·have:=hfirst a ha;have:=hlast b hb;omega
     ·rw[hmem]
      have:x∈out↔x∈out.take k.toNat\/x∈out.drop k.toNat:=by rw[<-List.mem_append,List.take_append_drop]
      rw[this]
      simp only[List.mem_append,List.mem_singleton]
      constructor
      ·rintro((h|h)|h)
       ·exact .inl (.inl h)
       ·exact .inr h
       ·exact .inl (.inr h)
      ·rintro((h|h)|h)
       ·exact .inl (.inl h)
       ·exact .inr h
       ·exact .inl (.inr h)
     ·simp only[yhr,List.length_take,List.length_drop,List.length_singleton];omega
    ·obtain⟨hk,e⟩:=q2 hbf
     rw[ywd]
     refine⟨i3.srt,fun x=>?_,by rw[List.length_take];omega⟩
     rw[hmem]
     refine⟨.inl,fun h=>h.elim id fun h=>?_⟩
     rw[h,<-e]
     exact ygh hk
   ·simp only[ywa,ywb,ywc,ywd,ywe,yhw,yhx,yhv,yhy,yhz,yhb,yhc,yhd,yhu,yhe,yhf,yhg,yhh,yhi,yhj,yhk,yhl,yhm,yhn,yho,yhp]
    exact⟨by omega,⟨by omega,by omega,hlp⟩,by omega⟩
 ·have e:i.toNat=st.length:=by omega
  rw[e,List.take_length]at i3
  simp only[ywd,yhz]
  exact h _ i3
end Go.Fw
namespace Go.Fw
open Go
set_option linter.unusedSimpArgs false
set_option linter.unusedVariables false
theorem zkP{st:List Stp}(h:st.length<=KK):∃r,zbi st=some r/\zaE st=some r/\r.length<=KK:=by
 have hk:KK=1048576:=rfl
 obtain⟨a,e1,h1⟩:=ziP (Q:=fun l=>PartsOf st l) (by omega) fun l h=>h
 obtain⟨b,e2,h2⟩:=zie (Q:=fun l=>PartsOf st l) (by omega) fun l h=>h
 obtain rfl:a=b:=h1.srt.ext h2.srt fun x=>(h1.mem x).trans (h2.mem x).symm
 exact⟨a,e1,e2,by have:=h1.len;omega⟩
theorem zlE{d:List Stp}(hd:KSt BIG d):zaD d=some true:=by
 rw[<-zrB]
 rw[zbk];unfold zat
 have hk:(KK:Int)=1048576:=rfl
 have hM:MM=1099511627776:=rfl
 rw[ywb]
 refine(zpP hd (l:=1048576) (by omega) (by omega)).mono fun x hx=>?_
 obtain⟨h1,h2,h3⟩:=hx
 rw[ywc]
 refine⟨fun _=>ywd.2 rfl,fun hx=>?_⟩
 simp only[yhd]at hx
 obtain⟨k1,m1⟩:=h3 (by omega)
 obtain⟨r,e1,e2,hr⟩:=zkP k1.1
 have er:zaZ (r,r)=some true:=zpZ hr
 have hkn:KK=1048576:=rfl
 obtain⟨ka,ya,a1,a2,a3,a4⟩:=zmD (xs:=d) (k:=1) (by omega) (by omega)
 have s1:=zlK (xs:=r) (k:=1) (by omega) (by omega)
 have s2:=zpi (n:=r.length) (k:=1) (by omega) (by omega)
 have n1:decide (ka<0)=false:=by simp;omega
 have n2:decide ((1:Int)+(r.length:Int)<0)=false:=by simp;omega
 simp only[zpS k1,zo9 k1,e1,e2,er,zby,bne_self_eq_false,zbG,Bool.not_true,a1,znU a4,n1,n2,s1,s2,List.length_map,List.length_range,znU rfl]
 exact ywd.2 rfl
end Go.Fw
