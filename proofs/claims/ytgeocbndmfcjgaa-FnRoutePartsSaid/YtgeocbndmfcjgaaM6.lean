/- A part of the proof: what stands for the program, its functions, and what they come to. -/
import Derived.Shelf.Sort.Plain
import Derived.Shelf.Slices.Clone
import Derived.Shelf.Slices.CompactI
import Derived.Shelf.Slices.Cells
import Derived.Shelf.Slices.In.SortNone
import Derived.Test.YtgeocbndmfcjgaaProg
import Derived.KernelRfl
import Derived.Test.YtgeocbndmfcjgaaM5
import Derived.Test.YtgeocbndmfcjgaaM2
set_option linter.all false
/- Contracts of the library at this program: the shelf's facts, laid. -/
namespace Go.Proofs
open Go.Shelf Go.Sort Go.RowKit
set_option maxRecDepth 100000
def Try.lays189_ren : Ren :=
  {
    f := fun x =>
      match x with
      | 189 => 24
      | 125 => 46
      | 257 => 45
      | 128 => 64
      | 129 => 65
      | 294 => 55
      | 295 => 56
      | 296 => 57
      | 297 => 58
      | 298 => 59
      | 299 => 60
      | 216 => 61
      | 300 => 62
      | 301 => 63
      | 328 => 74
      | 329 => 75
      | 330 => 76
      | 331 => 77
      | 332 => 78
      | 215 => 79
      | 343 => 94
      | n => n,
    t := fun x =>
      match x with
      | 28 => 24
      | 3 => 3
      | 46 => 66
      | 0 => 0
      | 51 => 93
      | 53 => 95
      | 4 => 4
      | 183 => 85
      | 182 => 84
      | 131 => 90
      | 5 => 5
      | 9 => 9
      | 218 => 115
      | 222 => 119
      | 228 => 146
      | 229 => 147
      | n => n,
    g := fun x =>
      x }
def Try.laysNm220_ren : Ren :=
  {
    f := fun x =>
      match x with
      | 20 => 26
      | n => n,
    t := fun x =>
      match x with
      | 22 => 24
      | 3 => 3
      | 4 => 4
      | 0 => 0
      | n => n,
    g := fun x =>
      x }
def Try.laysNm215_ren : Ren :=
  {
    f := fun x =>
      match x with
      | 15 => 25
      | n => n,
    t := fun x =>
      match x with
      | 22 => 24
      | 3 => 3
      | 4 => 4
      | n => n,
    g := fun x =>
      x }
theorem Try.lays189 : Lays.n189 Try.prog Try.lays189_ren :=
  { mixed := by kernel_rfl, f125 := Try.func46.trans (by kernel_rfl),
    f128 := Try.func64.trans (by kernel_rfl),
    f129 := Try.func65.trans (by kernel_rfl),
    f189 := Try.func24.trans (by kernel_rfl),
    f215 := Try.func79.trans (by kernel_rfl),
    f216 := Try.func61.trans (by kernel_rfl),
    f257 := Try.func45.trans (by kernel_rfl),
    f294 := Try.func55.trans (by kernel_rfl),
    f295 := Try.func56.trans (by kernel_rfl),
    f296 := Try.func57.trans (by kernel_rfl),
    f297 := Try.func58.trans (by kernel_rfl),
    f298 := Try.func59.trans (by kernel_rfl),
    f299 := Try.func60.trans (by kernel_rfl),
    f300 := Try.func62.trans (by kernel_rfl),
    f301 := Try.func63.trans (by kernel_rfl),
    f328 := Try.func74.trans (by kernel_rfl),
    f329 := Try.func75.trans (by kernel_rfl),
    f330 := Try.func76.trans (by kernel_rfl),
    f331 := Try.func77.trans (by kernel_rfl),
    f332 := Try.func78.trans (by kernel_rfl),
    f343 := Try.func94.trans (by kernel_rfl), t0 := Try.underlying0,
    a0 := Try.isAgg0, z0 := Try.sizeOf0, v0 := Try.zeroValue0, t3 := Try.underlying3, a3 := Try.isAgg3, z3 := Try.sizeOf3,
    v3 := Try.zeroValue3, t4 := Try.underlying4, a4 := Try.isAgg4, z4 := Try.sizeOf4, v4 := Try.zeroValue4,
    t5 := Try.underlying5, a5 := Try.isAgg5, z5 := Try.sizeOf5, v5 := Try.zeroValue5, t9 := Try.underlying9,
    a9 := Try.isAgg9, z9 := Try.sizeOf9, v9 := Try.zeroValue9, t28 := Try.underlying24, a28 := Try.isAgg24,
    z28 := Try.sizeOf24, v28 := Try.zeroValue24, t46 := Try.underlying66, a46 := Try.isAgg66, z46 := Try.sizeOf66,
    v46 := Try.zeroValue66, t51 := Try.underlying93, a51 := Try.isAgg93, z51 := Try.sizeOf93, v51 := Try.zeroValue93,
    t53 := Try.underlying95, a53 := Try.isAgg95, z53 := Try.sizeOf95, v53 := Try.zeroValue95, t131 := Try.underlying90,
    a131 := Try.isAgg90, z131 := Try.sizeOf90, v131 := Try.zeroValue90, t182 := Try.underlying84, a182 := Try.isAgg84,
    z182 := Try.sizeOf84, v182 := Try.zeroValue84, t183 := Try.underlying85, a183 := Try.isAgg85, z183 := Try.sizeOf85,
    v183 := Try.zeroValue85, t218 := Try.underlying115, a218 := Try.isAgg115, z218 := Try.sizeOf115,
    v218 := Try.zeroValue115, t222 := Try.underlying119, a222 := Try.isAgg119, z222 := Try.sizeOf119,
    v222 := Try.zeroValue119, t228 := Try.underlying146, a228 := Try.isAgg146, z228 := Try.sizeOf146,
    v228 := Try.zeroValue146, t229 := Try.underlying147, a229 := Try.isAgg147, z229 := Try.sizeOf147,
    v229 := Try.zeroValue147 }
theorem Try.laysNm220 : Lays2.n20 Try.prog Try.laysNm220_ren :=
  { mixed := by kernel_rfl, f20 := Try.func26.trans (by kernel_rfl),
    t0 := Try.underlying0, a0 := Try.isAgg0, z0 := Try.sizeOf0, v0 := Try.zeroValue0, t3 := Try.underlying3,
    a3 := Try.isAgg3, z3 := Try.sizeOf3, v3 := Try.zeroValue3, t4 := Try.underlying4, a4 := Try.isAgg4, z4 := Try.sizeOf4,
    v4 := Try.zeroValue4, t22 := Try.underlying24, a22 := Try.isAgg24, z22 := Try.sizeOf24, v22 := Try.zeroValue24,
    i3 := by kernel_rfl }
theorem Try.laysNm215 : Lays2.n15 Try.prog Try.laysNm215_ren :=
  { mixed := by kernel_rfl, f15 := Try.func25.trans (by kernel_rfl),
    t3 := Try.underlying3, a3 := Try.isAgg3, z3 := Try.sizeOf3, v3 := Try.zeroValue3, t4 := Try.underlying4,
    a4 := Try.isAgg4, z4 := Try.sizeOf4, v4 := Try.zeroValue4, t22 := Try.underlying24, a22 := Try.isAgg24,
    z22 := Try.sizeOf24, v22 := Try.zeroValue24, i3 := by kernel_rfl }
theorem Try.slices_Sort_int (blk off cap : Nat) (zs : List Int) (w : World) (hH : Holds (Value.int .i64) w blk off zs.toArray) (hblk : blk < w.heap.size) (hsz : zs.length < 4611686018427387904) :
    Calls Try.prog 24 #[.slice (some ⟨blk, off, none⟩) zs.length cap] w fun e w' =>
      e = .returned (.tuple #[]) ∧ ∃ n os, w' = grow (putRow (Value.int .i64) (Sort.ahead w n) blk off (zs.mergeSort fun x y => decide (x ≤ y)).toArray) os := Any.slices_Sort_int Try.lays189 blk off cap zs w hH hblk hsz
theorem Try.slices_Sort_int_none (p : Option Addr) (cap : Nat) (w : World) :
    Calls Try.prog 24 #[.slice p 0 cap] w fun e w' => e = .returned (.tuple #[]) ∧ w' = w := Any.slices_Sort_int_none Try.lays189 p cap w
theorem Try.slices_Compact_int (blk off cap : Nat) (zs : List Int) (w : World) (hH : Holds (Value.int .i64) w blk off zs.toArray) (hsz : zs.length ≤ 9223372036854775807) (hcap : zs.length ≤ cap) :
    Calls Try.prog 26 #[.slice (some ⟨blk, off, none⟩) zs.length cap] w fun e w' => e = .returned (.slice (some ⟨blk, off, none⟩) (Lib.compact zs).length cap) ∧ ∃ q, w' = putRow (Value.int .i64) (Sort.ahead w q) blk off (Lib.compact zs ++ List.replicate (zs.length - (Lib.compact zs).length) 0).toArray := Any.slices_Compact_int Try.laysNm220 blk off cap zs w hH hsz hcap
theorem Try.slices_Compact_int_empty (a : Option Addr) (cap : Nat) (w : World) :
    Calls Try.prog 26 #[.slice a 0 cap] w fun e w' => e = .returned (.slice a 0 cap) ∧ w' = w := Any.slices_Compact_int_empty Try.laysNm220 a cap w
theorem Try.slices_Clone_int (b off n c : Nat) (zs : List Int) (w : World) (hz : n ≤ zs.length) (hbig : n * 8 ≤ 140737488355328) (hc : ∀ j, j < zs.length → w.cell? ⟨b, off + j, none⟩ = some (.int .i64 (zs.getD j 0))) :
    Calls Try.prog 25 #[.slice (some ⟨b, off, none⟩) n c] w fun e w' => ∃ v', e = .returned v' ∧ w'.ownsRow w.heap.size 3 1 v' n ((zs.take n).map (Value.int .i64)) ∧ v' ≠ .slice none 0 0 ∧ Below w.heap.size w w' := Any.slices_Clone_int Try.laysNm215 b off n c zs w hz hbig hc
theorem Try.slices_Clone_int_nil (n c : Nat) (w : World) :
    Calls Try.prog 25 #[.slice none n c] w fun e w' => e = .returned (.slice none 0 0) ∧ w' = w := Any.slices_Clone_int_nil Try.laysNm215 n c w
theorem Try.slices_Clone_int_zero (a : Addr) (c : Nat) (w : World) :
    Calls Try.prog 25 #[.slice (some a) 0 c] w fun e w' => ∃ v', e = .returned v' ∧ w'.ownsRow w.heap.size 3 1 v' 0 [] ∧ v' ≠ .slice none 0 0 ∧ Below w.heap.size w w' := Any.slices_Clone_int_zero Try.laysNm215 a c w
end Go.Proofs
namespace Go.Fw
open Go Go.Proofs
noncomputable def B_slices_Sort_int_int (d:List Int):Option (List Int):=gd (decide (d.length<4611686018427387904)) (some (d.mergeSort fun x y=>decide (x≤y)))
noncomputable def F_slices_Sort_int_int:List Int→Option (List Int):=sealD B_slices_Sort_int_int
theorem F_slices_Sort_int_int_eq (d:List Int):F_slices_Sort_int_int d=B_slices_Sort_int_int d:=congrFun (sealD_eq B_slices_Sort_int_int) d
noncomputable def e_slices_Sort_int_int:TE:=⟨24,[.own 0],[.arr (.int .i64) .no],(.tup []),[.arr (.int .i64) .no],F_slices_Sort_int_int⟩
theorem k_slices_Sort_int_int:EOk Try.prog e_slices_Sort_int_int:=sortE_ok _ fun xs ys h=>by
 rw [F_slices_Sort_int_int_eq] at h
 unfold B_slices_Sort_int_int gd at h
 cases hd:decide (xs.length<4611686018427387904) with
 | false=>rw [hd] at h; cases h
 | true =>
  rw [hd] at h
  cases h
  exact sort_spec Try.call24 (fun blk off cap zs w hH hb hs=>Try.slices_Sort_int blk off cap zs w hH hb hs) (fun p cap w=>Try.slices_Sort_int_none p cap w) xs (of_decide_eq_true hd)
noncomputable def B_slices_Compact_int_int (d:List Int):Option (List Int):=gd (decide (d.length≤9223372036854775807)) (some (Lib.compact d))
noncomputable def F_slices_Compact_int_int:List Int→Option (List Int):=sealD B_slices_Compact_int_int
theorem F_slices_Compact_int_int_eq (d:List Int):F_slices_Compact_int_int d=B_slices_Compact_int_int d:=congrFun (sealD_eq B_slices_Compact_int_int) d
noncomputable def e_slices_Compact_int_int:TE:=⟨26,[.own 0],[.arr (.int .i64) .no],(.own 1),[.dead,.arr (.int .i64) .no],F_slices_Compact_int_int⟩
theorem k_slices_Compact_int_int:EOk Try.prog e_slices_Compact_int_int:=compactE_ok _ fun xs ys h=>by
 rw [F_slices_Compact_int_int_eq] at h
 unfold B_slices_Compact_int_int gd at h
 cases hd:decide (xs.length≤9223372036854775807) with
 | false=>rw [hd] at h; cases h
 | true =>
  rw [hd] at h
  cases h
  exact compact_new (compact_spec Try.call26 (fun blk off cap zs w hH hs hc=>Try.slices_Compact_int blk off cap zs w hH hs hc) (fun a cap w=>Try.slices_Compact_int_empty a cap w) compact_length_le compact_mem xs (of_decide_eq_true hd))
noncomputable def B_slices_Clone_int_int (d:List Int):Option (List Int×List Int):=gd (decide (d.length * 8≤140737488355328)) (some (d,d))
noncomputable def F_slices_Clone_int_int:List Int→Option (List Int×List Int):=sealD B_slices_Clone_int_int
theorem F_slices_Clone_int_int_eq (d:List Int):F_slices_Clone_int_int d=B_slices_Clone_int_int d:=congrFun (sealD_eq B_slices_Clone_int_int) d
noncomputable def e_slices_Clone_int_int:TE:=⟨25,[.own 0],[.arr (.int .i64) .no],(.own 1),[.arr (.int .i64) .no,.arr (.int .i64) .no],F_slices_Clone_int_int⟩
theorem k_slices_Clone_int_int:EOk Try.prog e_slices_Clone_int_int:=cloneE_ok _ fun xs ys h=>by
 rw [F_slices_Clone_int_int_eq] at h
 unfold B_slices_Clone_int_int gd at h
 cases hd:decide (xs.length * 8≤140737488355328) with
 | false=>rw [hd] at h; cases h
 | true =>
  rw [hd] at h
  cases h
  have:=clone_spec (P:=Try.prog) (f:=25) (ty:=3) Try.call25 (fun b off n c zs w hz hb hc=>Try.slices_Clone_int b off n c zs w hz hb hc) (fun n c w=>Try.slices_Clone_int_nil n c w) (fun a c w=>Try.slices_Clone_int_zero a c w) xs xs.length (Nat.le_refl _) (of_decide_eq_true hd)
  rw [List.take_length] at this
  exact this
end Go.Fw
namespace Go.Fw
open Go
instance arN (n:Nat):OfNat Ar n:=⟨.t n⟩
abbrev kI (n:Int):Ar:=.c (.int .i64 n)
abbrev kT:Ar:=.c (.bool true)
abbrev kF:Ar:=.c (.bool false)
abbrev mO (d:Nat)(a:Ar):COp:=O d (.mv a)
abbrev lO (d:Nat)(a:Ar):COp:=O d (.load none a)
abbrev fO (d f:Nat)(a:Ar):COp:=O d (.fa f a)
abbrev iO (d n:Nat)(a b:Ar):COp:=O d (.ia n a b)
abbrev nO (d:Nat)(a:Ar):COp:=O d (.lenl a)
abbrev bO (d:Nat)(o:BinOp)(a b:Ar):COp:=O d (.bin o a b)
abbrev cO (d f:Nat)(l:List Ar):COp:=O d (.call f l)
abbrev gT (d t:Nat)(k:K):COp:=.mk (some d) (some (t,true)) k
abbrev gF (d t:Nat)(k:K):COp:=.mk (some d) (some (t,false)) k
abbrev sO (k:K):COp:=.mk none none k
set_option maxRecDepth 10000
def c4:CC :=
 .seq (.reg [0] [mO 2 kF])
 (.seq (.seq (.reg [0,12] [mO 10 0,nO 11 10,bO 12 .gtr 11 (kI 1048576)])
 (.cond 12 (.seq (.reg [2] [mO 2 kT])
 .ret) .skip))
 (.seq (.reg [3] [mO 13 0,(cO 14 15 [13]),mO 3 14])
 (.seq (.reg [3,4] [mO 15 3,(cO 16 16 [15]),mO 4 16])
 (.seq (.seq (.reg [3,4,20] [mO 17 4,mO 18 3,(cO 19 17 [18]),bO 20 .neq 17 19])
 (.cond 20 (.seq (.reg [2] [mO 2 kF])
 .ret) .skip))
 (.seq (.seq (.reg [3,4,5] [mO 5 (kI 0)])
 (.block 0 (.lp true 0 [5] [3,4] (.seq (.seq (.reg [3,4,5,24] [mO 21 5,mO 22 3,nO 23 22,bO 24 .lss 21 23])
 (.cond 24 .skip (.exit 0)))
 (.seq (.block 1 (.seq (.reg [3,4,5,6] [mO 6 (kI 0)])
 (.block 2 (.lp true 2 [6] [3,4,5] (.seq (.seq (.reg [3,4,5,6,34] [mO 27 6,mO 28 3,mO 29 5,iO 30 6 28 29,fO 31 4 30,lO 32 31,nO 33 32,bO 34 .lss 27 33])
 (.cond 34 .skip (.exit 2)))
 (.seq (.block 3 (.seq (.reg [3,4,5,6,57] [mO 37 3,mO 38 5,iO 39 6 37 38,fO 40 4 39,lO 41 40,mO 42 6,iO 43 1 41 42,lO 44 43,bO 45 .lss 44 (kI 0),mO 46 45,gF 47 46 (.mv 3),gF 48 46 (.mv 5),gF 49 46 (.ia 6 47 48),gF 50 46 (.fa 4 49),gF 51 46 (.load none 50),gF 52 46 (.mv 6),gF 53 46 (.ia 1 51 52),gF 54 46 (.load none 53),gF 55 46 (.mv 5),gF 56 46 (.bin .geq 54 55),O 57 (.pick 46 kT 56)])
 (.cond 57 (.seq (.reg [2] [mO 2 kT])
 .ret) .skip)))
 (.reg [3,4,5,6] [mO 35 6,bO 36 .add 35 (kI 1),mO 6 36])))))))
 (.reg [3,4,5] [mO 25 5,bO 26 .add 25 (kI 1),mO 5 26]))))))
 (.seq (.reg [3,4,7] [O 58 (.bsl0),mO 7 58])
 (.seq (.reg [3,4,7,8] [mO 8 (kI 0)])
 (.seq (.block 4 (.lp false 4 [7,8] [3,4] (.seq (.seq (.reg [3,4,7,8,69] [mO 59 7,nO 60 59,mO 61 3,nO 62 61,bO 63 .lss 60 62,mO 64 63,gT 65 64 (.mv 8),gT 66 64 (.mv 3),gT 67 64 (.lenl 66),gT 68 64 (.bin .leq 65 67),O 69 (.pick 64 68 kF)])
 (.cond 69 .skip (.exit 4)))
 (.block 5 (.seq (.frz 7 0 (.reg [3,4,7,8,9] [mO 70 3,mO 71 7,(cO 72 18 [70,71]),mO 9 72]))
 (.seq (.reg [3,4,7,8] [O 73 (.bsl0),mO 74 7,O 75 (.app 1 73 74),mO 76 9,O 77 (.app 1 75 76),mO 7 77])
 (.reg [3,4,7,8] [mO 78 8,bO 79 .add 78 (kI 1),mO 8 79])))))))
 (.seq (.reg [2] [mO 80 8,mO 81 4,bO 82 .eql 80 81,mO 2 82])
 .ret)))))))))
def c5:CC :=
 .seq (.reg [0] [mO 2 kF])
 (.seq (.seq (.reg [0,11] [mO 9 0,nO 10 9,bO 11 .gtr 10 (kI 1048576)])
 (.cond 11 (.seq (.reg [2] [mO 2 kT])
 .ret) .skip))
 (.seq (.reg [3] [mO 12 0,(cO 13 19 [12]),mO 3 13])
 (.seq (.reg [3,4] [mO 14 3,(cO 15 9 [14]),mO 4 15])
 (.seq (.seq (.reg [3,4,20] [mO 16 4,mO 17 3,(cO 18 7 [17]),(cO 19 20 [16,18]),O 20 (.not 19)])
 (.cond 20 (.seq (.reg [2] [mO 2 kF])
 .ret) .skip))
 (.seq (.seq (.reg [3,4,5] [mO 5 (kI 0)])
 (.block 0 (.lp true 0 [5] [3,4] (.seq (.seq (.reg [3,4,5,24] [mO 21 5,mO 22 4,nO 23 22,bO 24 .lss 21 23])
 (.cond 24 .skip (.exit 0)))
 (.seq (.block 1 (.seq (.reg [3,4,5,6] [mO 6 kF])
 (.seq (.seq (.reg [3,4,5,6,7] [mO 7 (kI 0)])
 (.block 2 (.lp false 2 [6,7] [3,4,5] (.seq (.seq (.reg [3,4,5,6,7,30] [mO 27 7,mO 28 3,nO 29 28,bO 30 .lss 27 29])
 (.cond 30 .skip (.exit 2)))
 (.seq (.block 3 (.regd [3,4,5,6,7] (iota 0 14) [0,1,3,3,15,31,63,3,3,387,899,2047,4095,8191] [0,0,0,0,0,0,1,0,0,0,1,0,0,0] [mO 33 6,mO 34 33,gF 35 34 (.mv 3),gF 36 34 (.mv 7),gF 37 34 (.ia 6 35 36),gF 38 34 (.fa 0 37),gF 39 34 (.load none 38),gF 40 34 (.mv 4),gF 41 34 (.mv 5),gF 42 34 (.ia 1 40 41),gF 43 34 (.load none 42),gF 44 34 (.bin .eql 39 43),O 45 (.pick 34 kT 44),mO 6 45]))
 (.reg [3,4,5,6,7] [mO 31 7,bO 32 .add 31 (kI 1),mO 7 32]))))))
 (.seq (.regd [3,4,5,63] (iota 0 18) [0,1,3,7,15,31,63,63,191,511,1023,63,63,6207,14399,32767,65535,131071] [0,0,0,0,0,0,0,0,0,0,1,0,0,0,1,0,0,0] [mO 46 6,O 47 (.not 46),mO 48 47,gF 49 48 (.mv 5),gF 50 48 (.bin .gtr 49 (kI 0)),gF 51 48 (.mv 50),gT 52 51 (.mv 4),gT 53 51 (.mv 5),gT 54 51 (.bin .sub 53 (kI 1)),gT 55 51 (.ia 1 52 54),gT 56 51 (.load none 55),gT 57 51 (.mv 4),gT 58 51 (.mv 5),gT 59 51 (.ia 1 57 58),gT 60 51 (.load none 59),gT 61 51 (.bin .geq 56 60),gF 62 48 (.pick 51 61 kF),O 63 (.pick 48 kT 62)])
 (.cond 63 (.seq (.reg [2] [mO 2 kF])
 .ret) .skip)))))
 (.reg [3,4,5] [mO 25 5,bO 26 .add 25 (kI 1),mO 5 26]))))))
 (.seq (.seq (.reg [3,4,8] [mO 8 (kI 0)])
 (.block 4 (.lp true 4 [8] [3,4] (.seq (.seq (.reg [3,4,8,67] [mO 64 8,mO 65 3,nO 66 65,bO 67 .lss 64 66])
 (.cond 67 .skip (.exit 4)))
 (.seq (.block 5 (.seq (.reg [3,4,8,77] [mO 70 4,mO 71 3,mO 72 8,iO 73 6 71 72,fO 74 0 73,lO 75 74,(cO 76 21 [70,75]),O 77 (.not 76)])
 (.cond 77 (.seq (.reg [2] [mO 2 kF])
 .ret) .skip)))
 (.reg [3,4,8] [mO 68 8,bO 69 .add 68 (kI 1),mO 8 69]))))))
 (.seq (.reg [2] [mO 2 kT])
 .ret)))))))
def cy5:List (Nat×An):=[(2,.t .bool),(3,.t (.lst (.nm .Stp))),(4,.t (.lst (.int .i64))),(5,.t (.int .i64)),(6,.t .bool),(7,.t (.int .i64)),(63,.t .bool),(8,.t (.int .i64))]
def c7:CC :=
 .seq (.reg [0] [O 2 (.mv (.c (.sl 1 [])))])
 (.seq (.reg [0,3] [O 6 (.bsl 1 []),mO 3 6])
 (.seq (.seq (.reg [0,3,4] [mO 4 (kI 0)])
 (.block 0 (.lp false 0 [3,4] [0] (.seq (.seq (.reg [0,3,4,10] [mO 7 4,mO 8 0,nO 9 8,bO 10 .lss 7 9])
 (.cond 10 .skip (.exit 0)))
 (.seq (.block 1 (.seq (.reg [0,3,4,5] [mO 5 (kI 0)])
 (.seq (.block 2 (.lp false 2 [5] [0,3,4] (.seq (.seq (.regd [0,3,4,5,28] (iota 0 16) [0,0,2,7,15,31,31,127,255,31,31,1567,3615,7711,16383,32767] [0,0,0,0,0,0,0,0,1,0,0,0,0,1,0,0] [mO 13 5,mO 14 3,nO 15 14,bO 16 .lss 13 15,mO 17 16,gT 18 17 (.mv 3),gT 19 17 (.mv 5),gT 20 17 (.ia 1 18 19),gT 21 17 (.load none 20),gT 22 17 (.mv 0),gT 23 17 (.mv 4),gT 24 17 (.ia 6 22 23),gT 25 17 (.fa 0 24),gT 26 17 (.load none 25),gT 27 17 (.bin .lss 21 26),O 28 (.pick 17 27 kF)])
 (.cond 28 .skip (.exit 2)))
 (.block 3 (.reg [0,3,4,5] [mO 29 5,bO 30 .add 29 (kI 1),mO 5 30])))))
 (.seq (.regd [0,3,4,5,46] (iota 0 16) [0,0,2,7,15,31,31,127,255,31,31,1567,3615,7711,16383,32767] [0,0,0,0,0,0,0,0,1,0,0,0,0,1,0,0] [mO 31 5,mO 32 3,nO 33 32,bO 34 .eql 31 33,mO 35 34,gF 36 35 (.mv 3),gF 37 35 (.mv 5),gF 38 35 (.ia 1 36 37),gF 39 35 (.load none 38),gF 40 35 (.mv 0),gF 41 35 (.mv 4),gF 42 35 (.ia 6 40 41),gF 43 35 (.fa 0 42),gF 44 35 (.load none 43),gF 45 35 (.bin .neq 39 44),O 46 (.pick 35 kT 45)])
 (.jn false [3] [0,4] (.cond 46 (.regd [0,3,4] (iota 0 17) [0,0,0,6,15,0,0,96,224,480,992,2047,0,0,12288,32767,65535] [0,0,0,0,3,0,0,0,0,1,0,3,0,0,0,3,0] [O 47 (.bsl0),mO 48 3,mO 49 5,O 50 (.slc 1 48 none (some 49)),O 51 (.app 1 47 50),mO 52 0,mO 53 4,iO 54 6 52 53,fO 55 0 54,lO 56 55,O 57 (.bsl 1 [56]),O 58 (.app 1 51 57),mO 59 3,mO 60 5,O 61 (.slc 1 59 (some 60) none),O 62 (.apf 1 58 61),mO 3 62]) .skip))))))
 (.reg [0,3,4] [mO 11 4,bO 12 .add 11 (kI 1),mO 4 12]))))))
 (.seq (.reg [2] [mO 63 3,mO 2 63])
 .ret)))
def cy7:List (Nat×An):=[(2,.t (.lst (.int .i64))),(6,.t (.lst (.int .i64))),(3,.t (.lst (.int .i64))),(4,.t (.int .i64)),(5,.t (.int .i64)),(28,.t .bool),(46,.t .bool),(47,.t (.lst (.int .i64))),(51,.t (.lst (.int .i64))),(57,.t (.lst (.int .i64))),(58,.t (.lst (.int .i64))),(62,.t (.lst (.int .i64)))]
def c9:CC :=
 .seq (.reg [0] [O 2 (.mv (.c (.sl 1 [])))])
 (.seq (.reg [0,3] [O 3 (.mv (.c .e0))])
 (.seq (.seq (.reg [3,6,7,8] [mO 6 0,nO 7 6,mO 8 (kI 0)])
 (.block 0 (.lp false 0 [3,8] [6,7] (.seq (.reg [3,6,7,8,9] [bO 9 .lss 8 7])
 (.seq (.cond 9 .skip (.exit 0))
 (.seq (.block 1 (.seq (.reg [3,5,6,7,8] [iO 10 6 6 8,O 11 (.load (some 6) 10),O 5 (.alloc [(.int .i64 0),.e0,(.str []),.e0,.e0,.e0]),sO (.store 6 5 11)])
 (.frz 5 0 (.frz 5 0 (.reg [3,6,7,8] [mO 12 3,fO 13 0 5,lO 14 13,O 15 (.bsl 1 [14]),O 16 (.app 1 12 15),mO 3 16])))))
 (.reg [3,6,7,8] [bO 17 .add 8 (kI 1),mO 8 17])))))))
 (.seq (.reg [3] [mO 18 3,(cO 19 24 [18])])
 (.seq (.reg [2] [mO 20 3,(cO 21 26 [20]),(cO 22 25 [21]),mO 2 22])
 .ret))))
def cy9:List (Nat×An):=[(2,.t (.lst (.int .i64))),(3,.t (.lst (.int .i64))),(8,.t (.int .i64)),(11,.t (.nm .Stp)),(5,.cells ⟨some .Stp,[some ((.int .i64),.no),some ((.lst .str),.no),some (.str,.no),some ((.lst (.nm .Sel)),.no),some ((.lst (.int .i64)),.no),some ((.lst .str),.no)]⟩),(15,.t (.lst (.int .i64))),(16,.t (.lst (.int .i64)))]
def c15:CC :=
 .seq (.reg [0] [O 2 (.mv (.c (.sl 6 [])))])
 (.seq (.reg [3] [mO 5 0,(cO 6 31 [5]),mO 3 6])
 (.seq (.reg [3,4] [mO 7 3,(cO 8 32 [7]),mO 4 8])
 (.seq (.seq (.reg [3,4,16] [mO 9 4,nO 10 9,bO 11 .gtr 10 (kI 0),mO 12 11,gT 13 12 (.mv 3),gT 14 12 (.call 33 [13,(kI 8)]),gT 15 12 (.bin .eql 14 (kI 0)),O 16 (.pick 12 15 kF)])
 (.jn false [] [4] (.cond 16 (.seq (.reg [3,4] [mO 17 4,mO 18 3,(cO 19 33 [18,(kI 5)]),bO 20 .sub 19 (kI 1),O 21 (.bsl 1 [20]),O 22 (.ia 6 17 (kI 0)),fO 23 4 22,sO (.store 1 23 21)])
 (.reg [4] [mO 24 4,mO 25 3,(cO 26 33 [25,(kI 6)]),bO 27 .sub 26 (kI 1),O 28 (.ia 6 24 (kI 0)),fO 29 0 28,sO (.store 1 29 27)])) .skip)))
 (.seq (.reg [2] [mO 30 4,mO 2 30])
 .ret))))
def cy15:List (Nat×An):=[(2,.t (.lst (.nm .Stp))),(4,.t (.lst (.nm .Stp))),(16,.t .bool),(21,.t (.lst (.int .i64)))]
def c19:CC :=
 .seq (.reg [0] [O 2 (.mv (.c (.sl 6 [])))])
 (.seq (.reg [2] [mO 3 0,(cO 4 15 [3]),mO 2 4])
 .ret)
def cy19:List (Nat×An):=[(2,.t (.lst (.nm .Stp)))]
def c20:CC :=
 .seq (.reg [0,1] [mO 4 kF])
 (.seq (.seq (.reg [0,1,10] [mO 6 0,nO 7 6,mO 8 1,nO 9 8,bO 10 .neq 7 9])
 (.cond 10 (.seq (.reg [4] [mO 4 kF])
 .ret) .skip))
 (.seq (.seq (.reg [0,1,5] [mO 5 (kI 0)])
 (.block 0 (.lp true 0 [5] [0,1] (.seq (.seq (.reg [0,1,5,14] [mO 11 5,mO 12 0,nO 13 12,bO 14 .lss 11 13])
 (.cond 14 .skip (.exit 0)))
 (.seq (.block 1 (.seq (.regd [0,1,5,25] (iota 0 9) [0,0,3,7,0,0,48,112,255] [0,0,0,1,0,0,0,1,0] [mO 17 0,mO 18 5,iO 19 1 17 18,lO 20 19,mO 21 1,mO 22 5,iO 23 1 21 22,lO 24 23,bO 25 .neq 20 24])
 (.cond 25 (.seq (.reg [4] [mO 4 kF])
 .ret) .skip)))
 (.reg [0,1,5] [mO 15 5,bO 16 .add 15 (kI 1),mO 5 16]))))))
 (.seq (.reg [4] [mO 4 kT])
 .ret)))
def cy20:List (Nat×An):=[(4,.t .bool),(5,.t (.int .i64))]
def c21:CC :=
 .seq (.reg [0,1] [mO 4 kF])
 (.seq (.seq (.reg [0,1,5] [mO 5 (kI 0)])
 (.block 0 (.lp true 0 [5] [0,1] (.seq (.seq (.reg [0,1,5,9] [mO 6 5,mO 7 0,nO 8 7,bO 9 .lss 6 8])
 (.cond 9 .skip (.exit 0)))
 (.seq (.block 1 (.seq (.reg [0,1,5,17] [mO 12 0,mO 13 5,iO 14 1 12 13,lO 15 14,mO 16 1,bO 17 .eql 15 16])
 (.cond 17 (.seq (.reg [4] [mO 4 kT])
 .ret) .skip)))
 (.reg [0,1,5] [mO 10 5,bO 11 .add 10 (kI 1),mO 5 11]))))))
 (.seq (.reg [4] [mO 4 kF])
 .ret))
def cy21:List (Nat×An):=[(4,.t .bool),(5,.t (.int .i64))]
def c31:CC :=
 .seq (.reg [0] [O 2 (.mv (.c .nilp))])
 (.seq (.seq (.reg [0,5] [mO 3 0,nO 4 3,bO 5 .gtr 4 (kI 2000)])
 (.jn false [0] [] (.cond 5 (.reg [0] [mO 6 0,O 7 (.slc 1 6 none (some (kI 2000))),mO 0 7]) .skip)))
 (.seq (.reg [2] [mO 8 0,O 9 (.build [.e0,(.int .i64 0)] [(0,1,8)]),O 10 (.boxm 2 9),mO 2 10])
 .ret))
def cy31:List (Nat×An):=[(0,.t (.lst (.int .u8))),(10,.cells ⟨none,[some ((.lst (.int .u8)),.no),some ((.int .i64),.no)]⟩)]
def c32:CC :=
 .seq (.reg [0] [O 2 (.mv (.c (.sl 6 [])))])
 (.seq (.reg [3,4] [mO 8 0,(cO 9 49 [8]),mO 7 9,O 10 (.ext 7 0),O 11 (.ext 7 1),mO 3 10,mO 4 11])
 (.seq (.reg [5] [mO 13 3,mO 14 4,(cO 15 50 [13,14]),mO 12 15,O 16 (.ext 12 0),O 17 (.ext 12 1),mO 5 16,mO 6 17])
 (.seq (.reg [2] [mO 18 5,mO 2 18])
 .ret)))
def cy32:List (Nat×An):=[(2,.t (.lst (.nm .Stp)))]
def c33:CC :=
 .seq (.reg [0,1] [mO 4 (kI 0)])
 (.seq (.reg [0,1] [mO 7 0,mO 8 0,O 9 (.nilc 8),fO 10 1 9,lO 11 10,bO 12 .add 11 (kI 1),O 13 (.nilc 7),fO 14 1 13,sO (.store 1 14 12)])
 (.seq (.seq (.reg [0,1,24] [mO 15 1,bO 16 .lss 15 (kI 1),mO 17 16,gF 18 17 (.mv 0),gF 19 17 (.nilc 18),gF 20 17 (.fa 0 19),gF 21 17 (.load none 20),gF 22 17 (.lenl 21),gF 23 17 (.bin .eql 22 (kI 0)),O 24 (.pick 17 kT 23)])
 (.cond 24 (.seq (.reg [4] [mO 4 (kI 0)])
 .ret) .skip))
 (.seq (.reg [0,1,5] [mO 25 0,O 26 (.nilc 25),fO 27 1 26,lO 28 27,bO 29 .sub 28 (kI 1),mO 5 29])
 (.seq (.seq (.reg [0,1,5,36] [mO 30 5,mO 31 0,O 32 (.nilc 31),fO 33 0 32,lO 34 33,nO 35 34,bO 36 .lss 30 35])
 (.cond 36 (.seq (.reg [4] [mO 37 0,O 38 (.nilc 37),fO 39 0 38,lO 40 39,mO 41 5,iO 42 1 40 41,lO 43 42,O 44 (.conv .i64 43),mO 45 1,bO 46 .rem 44 45,mO 4 46])
 .ret) .skip))
 (.seq (.regd [1,6] (iota 0 46) [0,1,3,7,0,0,32,96,224,480,1008,2047,4095,8191,16383,0,32768,98304,229376,0,524288,1572864,0,4194304,12582912,29360128,62914560,133693440,268402688,536838144,1073709056,2147450880,4294967295,0,8589934592,34359738367,0,0,137438953472,412316860416,962072674304,2061584302080,4329327034368,8727373545472,17592186044415,35184372088831] [0,0,0,1,0,0,0,0,1,0,0,0,1,0,0,0,0,0,1,0,0,0,0,0,0,1,0,0,0,1,0,0,0,0,0,0,0,0,0,0,1,0,0,0,0,0] [mO 47 0,O 48 (.nilc 47),fO 49 0 48,lO 50 49,mO 51 5,mO 52 0,O 53 (.nilc 52),fO 54 0 53,lO 55 54,nO 56 55,bO 57 .rem 51 56,iO 58 1 50 57,lO 59 58,O 60 (.conv .i64 59),bO 61 .mul 60 (kI 131),mO 62 0,O 63 (.nilc 62),fO 64 0 63,lO 65 64,mO 66 5,bO 67 .mul 66 (kI 7),bO 68 .add 67 (kI 3),mO 69 0,O 70 (.nilc 69),fO 71 0 70,lO 72 71,nO 73 72,bO 74 .rem 68 73,iO 75 1 65 74,lO 76 75,O 77 (.conv .i64 76),bO 78 .mul 77 (kI 1117),bO 79 .add 61 78,mO 80 5,bO 81 .mul 80 (kI 29),bO 82 .add 79 81,mO 83 5,mO 84 0,O 85 (.nilc 84),fO 86 0 85,lO 87 86,nO 88 87,bO 89 .quo 83 88,bO 90 .mul 89 (kI 53),bO 91 .add 82 90,mO 6 91])
 (.seq (.reg [1,6] [mO 92 6,mO 93 6,bO 94 .quo 93 (kI 64),bO 95 .xor 92 94,mO 6 95])
 (.seq (.reg [4] [mO 96 6,mO 97 1,bO 98 .rem 96 97,mO 4 98])
 .ret)))))))
def cy33:List (Nat×An):=[(4,.t (.int .i64)),(24,.t .bool)]
def c35:CC :=
 .seq (.reg [0,1,2] [mO 6 kF])
 (.seq (.reg [6] [mO 7 0,mO 8 1,bO 9 .geq 7 8,mO 10 9,gT 11 10 (.mv 0),gT 12 10 (.mv 2),gT 13 10 (.bin .leq 11 12),O 14 (.pick 10 13 kF),mO 6 14])
 .ret)
def cy35:List (Nat×An):=[(6,.t .bool)]
def c49:CC :=
 .seq (.reg [0] [O 2 (.mv (.c (.sl 2 []))),O 3 (.mv (.c (.sl 5 [])))])
 (.seq (.reg [0,4] [mO 5 0,(cO 6 67 [5]),mO 4 6])
 (.seq (.reg [2,3] [mO 7 4,mO 8 0,mO 9 4,(cO 10 69 [9]),(cO 11 68 [8,10]),mO 2 7,mO 3 11])
 .ret))
def cy49:List (Nat×An):=[(2,.t (.lst (.nm .Part))),(3,.t (.lst (.nm .Sel)))]
def c50:CC :=
 .seq (.reg [0,1] [O 4 (.mv (.c (.sl 6 []))),mO 5 kF])
 (.seq (.reg [0,1,6,7] [mO 11 0,(cO 12 70 [11]),mO 10 12,O 13 (.ext 10 0),O 14 (.ext 10 1),O 6 (.alloc [(.str []),.e0,.e0]),O 7 (.alloc [(.int .i64 0),(.str []),(.str []),(.int .i64 0)]),sO (.store 3 6 13),sO (.store 4 7 14)])
 (.frz 6 0 (.frz 7 0 (.seq (.seq (.frz 6 0 (.reg [0,1,6,25] [fO 15 3 7,lO 16 15,bO 17 .neq 16 (kI 0),mO 18 17,gF 19 18 (.fa 0 6),gF 20 18 (.load (some 2) 19),gF 21 18 (.mv 1),gF 22 18 (.call 71 [20,21]),gF 23 18 (.field 1 none 22),gF 24 18 (.bin .neq 23 (kI 0)),O 25 (.pick 18 kT 24)]))
 (.cond 25 (.seq (.reg [4,5] [O 26 (.bsl0),mO 4 26,mO 5 kF])
 .ret) .skip))
 (.seq (.frz 6 0 (.reg [8,9] [mO 28 0,fO 29 0 6,O 30 (.load (some 2) 29),mO 31 1,(cO 32 72 [28,30,31]),mO 27 32,O 33 (.ext 27 0),O 34 (.ext 27 1),mO 8 33,mO 9 34]))
 (.seq (.reg [4,5] [mO 35 8,(cO 36 73 [35]),mO 37 9,mO 4 36,mO 5 37])
 .ret))))))
def cy50:List (Nat×An):=[(4,.t (.lst (.nm .Stp))),(5,.t .bool),(6,.cells ⟨some .Chart,[some (.str,.no),some ((.lst (.nm .Typ)),.no),some ((.lst (.nm .Own)),.no)]⟩),(7,.cells ⟨some .CFault,[some ((.int .i64),.no),some (.str,.no),some (.str,.no),some ((.int .i64),.no)]⟩),(20,.t (.nm .Part)),(23,.t (.int .i64)),(25,.t .bool),(26,.t (.lst (.nm .Stp))),(30,.t (.nm .Part))]
def c67:CC :=
 .seq (.reg [0] [O 2 (.mv (.c (.sl 2 [])))])
 (.seq (.seq (.reg [0,3] [mO 3 (kI 0)])
 (.block 0 (.lp true 0 [3] [0] (.seq (.seq (.reg [0,3,8] [mO 7 3,bO 8 .lss 7 (kI 6)])
 (.cond 8 .skip (.exit 0)))
 (.seq (.block 1 (.seq (.reg [0,3,4] [mO 11 0,(cO 12 80 [11]),mO 4 12])
 (.seq (.reg [0,3,4,5] [mO 14 4,(cO 15 81 [14]),mO 13 15,O 16 (.ext 13 0),O 17 (.ext 13 1),mO 5 16,mO 6 17])
 (.seq (.reg [0,3,4,18] [mO 18 5])
 (.cond 18 (.seq (.reg [2] [mO 19 4,mO 2 19])
 .ret) .skip)))))
 (.reg [0,3] [mO 9 3,bO 10 .add 9 (kI 1),mO 3 10]))))))
 (.seq (.reg [2] [O 20 (.build [(.str []),(.str []),(.bool false),(.bool false),(.bool false),(.bool false),(.bool false),.sl 1 []] [(0,1,(.c (.str [117,115,101,114,115]))),(1,1,(.c (.str [117,115,101,114]))),(2,1,kT)]),O 21 (.bsl 8 [20]),O 22 (.build [(.str []),(.str []),.sl 8 []] [(0,1,(.c (.str [113,117,101,114,121]))),(2,1,21)]),O 23 (.build [(.str []),(.str []),(.bool false),(.bool false),(.bool false),(.bool false),(.bool false),.sl 1 []] [(0,1,(.c (.str [105,100]))),(1,1,(.c (.str [105,110,116]))),(3,1,kT)]),O 24 (.build [(.str []),(.str []),(.bool false),(.bool false),(.bool false),(.bool false),(.bool false),.sl 1 []] [(0,1,(.c (.str [110,97,109,101]))),(1,1,(.c (.str [116,101,120,116])))]),O 25 (.bsl 8 [23,24]),O 26 (.build [(.str []),(.str []),.sl 8 []] [(0,1,(.c (.str [117,115,101,114]))),(1,1,(.c (.str [105,100]))),(2,1,25)]),O 27 (.bsl 3 [22,26]),O 28 (.build [(.str []),.sl 3 []] [(0,1,(.c (.str [101,97,115,116]))),(1,1,27)]),O 29 (.bsl 2 [28]),mO 2 29])
 .ret))
def cy67:List (Nat×An):=[(2,.t (.lst (.nm .Part))),(3,.t (.int .i64)),(20,.t (.nm .Field)),(21,.t (.lst (.nm .Field))),(22,.t (.nm .Typ)),(23,.t (.nm .Field)),(24,.t (.nm .Field)),(25,.t (.lst (.nm .Field))),(26,.t (.nm .Typ)),(27,.t (.lst (.nm .Typ))),(28,.t (.nm .Part)),(29,.t (.lst (.nm .Part)))]
def c68:CC :=
 .seq (.reg [0,3] [O 3 (.boxi 2 1),O 4 (.mv (.c (.sl 5 [])))])
 (.seq (.reg [0,3,5] [mO 7 0,O 8 (.load (some 2) 3),(cO 9 82 [7,8,(.c (.str [113,117,101,114,121])),(kI 1)]),mO 5 9])
 (.seq (.seq (.reg [0,3,5,6] [mO 6 (kI 0)])
 (.block 0 (.lp false 0 [5,6] [0,3] (.seq (.seq (.reg [0,3,5,6,23] [mO 10 6,bO 11 .lss 10 (kI 4),mO 12 11,gT 13 12 (.mv 5),gT 14 12 (.call 83 [13]),gT 15 12 (.not 14),gT 16 12 (.mv 15),gF 17 16 (.load (some 2) 3),gF 18 16 (.mv 5),gF 19 16 (.call 71 [17,18]),gF 20 16 (.field 1 none 19),gF 21 16 (.bin .neq 20 (kI 0)),gT 22 12 (.pick 16 kT 21),O 23 (.pick 12 22 kF)])
 (.cond 23 .skip (.exit 0)))
 (.seq (.block 1 (.reg [0,3,5,6] [mO 26 0,O 27 (.load (some 2) 3),(cO 28 82 [26,27,(.c (.str [113,117,101,114,121])),(kI 1)]),mO 5 28]))
 (.reg [0,3,5,6] [mO 24 6,bO 25 .add 24 (kI 1),mO 6 25]))))))
 (.seq (.seq (.reg [3,5,31] [mO 29 5,(cO 30 83 [29]),O 31 (.not 30)])
 (.cond 31 (.seq (.reg [4] [fO 32 1 3,lO 33 32,O 34 (.ia 3 33 (kI 0)),fO 35 2 34,lO 36 35,O 37 (.ia 8 36 (kI 0)),fO 38 0 37,lO 39 38,O 40 (.build [(.str []),(.str []),(.bool false),(.int .i64 0),.sl 5 []] [(1,1,39)]),O 41 (.bsl 5 [40]),mO 4 41])
 .ret) .skip))
 (.seq (.reg [4] [mO 42 5,mO 4 42])
 .ret))))
def cy68:List (Nat×An):=[(3,.cells ⟨some .Part,[some (.str,.no),some ((.lst (.nm .Typ)),.no)]⟩),(4,.t (.lst (.nm .Sel))),(5,.t (.lst (.nm .Sel))),(6,.t (.int .i64)),(20,.t (.int .i64)),(23,.t .bool),(40,.t (.nm .Sel)),(41,.t (.lst (.nm .Sel)))]
def c69:CC :=
 .seq (.reg [0,2] [O 2 (.alloc [(.str []),.e0])])
 (.seq (.reg [2,3,4] [mO 6 0,(cO 7 70 [6]),mO 5 7,O 8 (.ext 5 0),O 9 (.ext 5 1),O 3 (.alloc [(.str []),.e0,.e0]),O 4 (.alloc [(.int .i64 0),(.str []),(.str []),(.int .i64 0)]),sO (.store 3 3 8),sO (.store 4 4 9)])
 (.frz 3 0 (.frz 4 0 (.seq (.seq (.reg [2,3,12] [fO 10 3 4,lO 11 10,bO 12 .neq 11 (kI 0)])
 (.cond 12 (.seq (.reg [2] [(cO 13 84 []),O 14 (.build [(.str []),.e0] [(0,1,(.c (.str [97,108,108]))),(1,1,13)]),sO (.store 2 2 14)])
 .ret) .skip))
 (.seq (.reg [2] [fO 15 0 3,O 16 (.load (some 2) 15),sO (.store 2 2 16)])
 .ret)))))
def cy69:List (Nat×An):=[(2,.cells ⟨some .Part,[some (.str,.no),some ((.lst (.nm .Typ)),.no)]⟩),(3,.cells ⟨some .Chart,[some (.str,.no),some ((.lst (.nm .Typ)),.no),some ((.lst (.nm .Own)),.no)]⟩),(4,.cells ⟨some .CFault,[some ((.int .i64),.no),some (.str,.no),some (.str,.no),some ((.int .i64),.no)]⟩),(16,.t (.nm .Part))]
def c70:CC :=
 .seq (.reg [0,2,3] [O 2 (.alloc [(.str []),.e0,.e0]),O 3 (.alloc [(.int .i64 0),(.str []),(.str []),(.int .i64 0)])])
 (.seq (.reg [0,2,3,4] [mO 9 0,(cO 10 85 [9]),O 4 (.alloc [(.int .i64 0),(.str []),(.str []),(.int .i64 0)]),sO (.store 4 4 10)])
 (.frz 4 0 (.seq (.seq (.reg [0,2,3,4,13] [fO 11 3 4,lO 12 11,bO 13 .neq 12 (kI 0)])
 (.cond 13 (.seq (.regd [2,3] [0,1,2,3] [0,0,1,7] [0,0,4,4] [O 14 (.build [(.str []),.e0,.e0] []),O 15 (.load (some 4) 4),sO (.store 3 2 14),sO (.store 4 3 15)])
 .ret) .skip))
 (.seq (.reg [0,2,3,4,5] [mO 16 0,(cO 17 86 [16]),O 18 (.build [(.str []),.e0,.e0] [(0,2,17)]),O 5 (.alloc [(.str []),.e0,.e0]),sO (.store 3 5 18)])
 (.seq (.seq (.reg [0,2,3,4,5,23] [fO 19 0 5,O 20 (.load (some 2) 19),(cO 21 87 [20]),O 22 (.field 1 none 21),bO 23 .neq 22 (kI 0)])
 (.cond 23 (.seq (.reg [2,3] [O 24 (.build [(.str []),.e0,.e0] []),O 25 (.build [(.int .i64 0),(.str []),(.str []),(.int .i64 0)] [(3,1,(kI 8))]),sO (.store 3 2 24),sO (.store 4 3 25)])
 .ret) .skip))
 (.seq (.seq (.reg [0,2,3,4,5,6] [mO 6 (kI 0)])
 (.block 0 (.lp false 0 [6] [0,2,3,4,5] (.seq (.seq (.reg [0,2,3,4,5,6,31] [mO 26 6,fO 27 0 5,fO 28 1 27,lO 29 28,nO 30 29,bO 31 .lss 26 30])
 (.cond 31 .skip (.exit 0)))
 (.seq (.block 1 (.seq (.reg [0,2,3,4,5,6,7] [fO 34 0 5,fO 35 1 34,lO 36 35,mO 37 6,iO 38 3 36 37,O 39 (.load (some 3) 38),O 7 (.alloc [(.str []),(.str []),.e0]),sO (.store 3 7 39)])
 (.frz 7 0 (.seq (.reg [0,2,3,4,5,6,7,8] [mO 8 (kI 0)])
 (.block 2 (.lp false 2 [8] [0,2,3,4,5,6,7] (.seq (.seq (.reg [0,2,3,4,5,6,7,8,44] [mO 40 8,fO 41 2 7,lO 42 41,nO 43 42,bO 44 .lss 40 43])
 (.cond 44 .skip (.exit 2)))
 (.seq (.block 3 (.frz 7 0 (.regd [0,2,3,4,5,6,7,8] (iota 0 25) [0,1,0,4,0,16,0,112,240,496,0,0,2048,0,8192,0,57344,122880,253952,523264,1048572,2097148,4194303,8388607,16777215] [0,1,0,0,0,0,0,0,0,0,0,0,0,0,0,0,0,0,0,2,0,0,3,0,4] [fO 47 2 5,lO 48 47,fO 49 0 7,lO 50 49,fO 51 2 7,lO 52 51,mO 53 8,iO 54 8 52 53,fO 55 0 54,lO 56 55,mO 57 0,fO 58 0 7,lO 59 58,fO 60 2 7,lO 61 60,mO 62 8,iO 63 8 61 62,fO 64 0 63,lO 65 64,(cO 66 88 [57,59,65]),O 67 (.build [(.str []),(.str []),.sl 1 []] [(0,1,50),(1,1,56),(2,1,66)]),O 68 (.bsl 3 [67]),O 69 (.app 3 48 68),fO 70 2 5,sO (.store 1 70 69)])))
 (.reg [0,2,3,4,5,6,7,8] [mO 45 8,bO 46 .add 45 (kI 1),mO 8 46])))))))))
 (.reg [0,2,3,4,5,6] [mO 32 6,bO 33 .add 32 (kI 1),mO 6 33]))))))
 (.seq (.regd [2,3] [0,1,2,3] [0,0,1,7] [1,0,4,4] [O 71 (.load (some 3) 5),O 72 (.load (some 4) 4),sO (.store 3 2 71),sO (.store 4 3 72)])
 .ret)))))))
def cy70:List (Nat×An):=[(2,.cells ⟨some .Chart,[some (.str,.no),some ((.lst (.nm .Typ)),.no),some ((.lst (.nm .Own)),.no)]⟩),(3,.cells ⟨some .CFault,[some ((.int .i64),.no),some (.str,.no),some (.str,.no),some ((.int .i64),.no)]⟩),(4,.cells ⟨some .CFault,[some ((.int .i64),.no),some (.str,.no),some (.str,.no),some ((.int .i64),.no)]⟩),(14,.t (.nm .Chart)),(15,.t (.nm .CFault)),(18,.t (.nm .Chart)),(5,.cells ⟨some .Chart,[some (.str,.no),some ((.lst (.nm .Typ)),.no),some ((.lst (.nm .Own)),.no)]⟩),(20,.t (.nm .Part)),(22,.t (.int .i64)),(24,.t (.nm .Chart)),(25,.t (.nm .CFault)),(6,.t (.int .i64)),(39,.t (.nm .Typ)),(7,.cells ⟨some .Typ,[some (.str,.no),some (.str,.no),some ((.lst (.nm .Field)),.no)]⟩),(8,.t (.int .i64)),(67,.t (.nm .Own)),(68,.t (.lst (.nm .Own))),(69,.t (.lst (.nm .Own))),(71,.t (.nm .Chart)),(72,.t (.nm .CFault))]
def c71:CC :=
 .seq (.reg [1,2,4] [O 2 (.boxi 2 0),O 4 (.alloc [.e0,(.int .i64 0)])])
 (.seq (.seq (.reg [1,2,4,14] [O 6 (.load (some 2) 2),(cO 7 87 [6]),O 8 (.field 1 none 7),bO 9 .neq 8 (kI 0),mO 10 9,gF 11 10 (.mv 1),gF 12 10 (.call 83 [11]),gF 13 10 (.not 12),O 14 (.pick 10 kT 13)])
 (.cond 14 (.seq (.reg [4] [O 15 (.bsl 1 []),O 16 (.build [.e0,(.int .i64 0)] [(0,1,15),(1,1,(kI 1))]),sO (.store 2 4 16)])
 .ret) .skip))
 (.seq (.reg [4,5] [O 17 (.load (some 2) 2),mO 18 1,O 19 (.bsl 1 []),(cO 20 89 [17,(.c (.str [113,117,101,114,121])),18,19]),O 5 (.alloc [.e0,(.int .i64 0)]),sO (.store 2 5 20)])
 (.seq (.reg [4,5] [O 21 (.bsl0),fO 22 0 5,lO 23 22,O 24 (.app 1 21 23),fO 25 0 5,sO (.store 1 25 24)])
 (.seq (.reg [4] [O 26 (.load (some 2) 5),sO (.store 2 4 26)])
 .ret))))
def cy71:List (Nat×An):=[(2,.cells ⟨some .Part,[some (.str,.no),some ((.lst (.nm .Typ)),.no)]⟩),(4,.cells ⟨some .AFault,[some ((.lst .str),.no),some ((.int .i64),.no)]⟩),(6,.t (.nm .Part)),(7,.t (.nm .PFault)),(8,.t (.int .i64)),(9,.t .bool),(10,.t .bool),(11,.t (.lst (.nm .Sel))),(12,.t .bool),(13,.t .bool),(14,.t .bool),(15,.t (.lst .str)),(16,.t (.nm .AFault)),(17,.t (.nm .Part)),(18,.t (.lst (.nm .Sel))),(19,.t (.lst .str)),(20,.t (.nm .AFault)),(5,.cells ⟨some .AFault,[some ((.lst .str),.no),some ((.int .i64),.no)]⟩),(21,.t (.lst .str)),(23,.t (.lst .str)),(24,.t (.lst .str)),(26,.t (.nm .AFault))]
def c72:CC :=
 .seq (.reg [0,2,4] [O 4 (.boxi 2 1),O 6 (.mv (.c (.sl 6 []))),mO 7 kF])
 (.seq (.reg [0,2,8] [mO 12 0,O 13 (.load (some 2) 4),O 14 (.build [.e0,(.str []),.e0,.e0,(.bool false)] [(0,1,12),(1,2,13),(4,1,kT)]),O 15 (.boxm 5 14),mO 8 15])
 (.seq (.reg [2,8,9] [mO 16 0,mO 17 2,O 18 (.ia 5 17 (kI 0)),fO 19 1 18,lO 20 19,(cO 21 90 [16,(.c (.str [113,117,101,114,121])),20]),mO 9 21])
 (.seq (.seq (.reg [2,8,9,23] [mO 22 9,bO 23 .lss 22 (kI 0)])
 (.cond 23 (.seq (.reg [6,7] [O 24 (.bsl 6 []),mO 6 24,mO 7 kF])
 .ret) .skip))
 (.seq (.reg [2,8,10] [mO 25 8,mO 26 9,O 27 (.bsl 1 []),O 28 (.bsl 1 []),(cO 29 91 [25,26,27,(.c (.str [113,117,101,114,121])),28]),mO 10 29])
 (.seq (.reg [8,10,11] [mO 30 8,mO 31 10,mO 32 2,O 33 (.bsl 1 []),(cO 34 92 [30,31,(.c (.str [113,117,101,114,121])),32,33]),mO 11 34])
 (.seq (.reg [8] [mO 35 8,O 36 (.nilc 35),fO 37 3 36,lO 38 37,mO 39 10,mO 40 11,iO 41 6 38 39,fO 42 3 41,sO (.store 1 42 40)])
 (.seq (.seq (.reg [8,47] [mO 43 8,O 44 (.nilc 43),fO 45 4 44,lO 46 45,O 47 (.not 46)])
 (.cond 47 (.seq (.reg [6,7] [O 48 (.bsl 6 []),mO 6 48,mO 7 kF])
 .ret) .skip))
 (.seq (.reg [6,7] [mO 49 8,O 50 (.nilc 49),fO 51 3 50,lO 52 51,mO 6 52,mO 7 kT])
 .ret))))))))
def cy72:List (Nat×An):=[(4,.cells ⟨some .Part,[some (.str,.no),some ((.lst (.nm .Typ)),.no)]⟩),(6,.t (.lst (.nm .Stp))),(7,.t .bool),(12,.t (.lst (.nm .Part))),(13,.t (.nm .Part)),(15,.cells ⟨none,[some ((.lst (.nm .Part)),.no),some (.str,.no),some ((.lst (.nm .Typ)),.no),some ((.lst (.nm .Stp)),.no),some (.bool,.no)]⟩),(16,.t (.lst (.nm .Part))),(17,.t (.lst (.nm .Sel))),(20,.t .str),(21,.t (.int .i64)),(9,.t (.int .i64)),(22,.t (.int .i64)),(23,.t .bool),(24,.t (.lst (.nm .Stp))),(26,.t (.int .i64)),(27,.t (.lst .str)),(28,.t (.lst (.int .i64))),(29,.t (.int .i64)),(10,.t (.int .i64)),(31,.t (.int .i64)),(32,.t (.lst (.nm .Sel))),(33,.t (.lst .str)),(34,.t (.lst (.nm .Sel))),(11,.t (.lst (.nm .Sel))),(38,.t (.lst (.nm .Stp))),(39,.t (.int .i64)),(40,.t (.lst (.nm .Sel))),(46,.t .bool),(47,.t .bool),(48,.t (.lst (.nm .Stp))),(52,.t (.lst (.nm .Stp)))]
def c73:CC :=
 .seq (.reg [0] [O 2 (.mv (.c (.sl 6 [])))])
 (.seq (.reg [0,3] [O 6 (.bsl0),mO 3 6])
 (.seq (.seq (.reg [0,3,4] [mO 4 (kI 0)])
 (.block 0 (.lp false 0 [3,4] [0] (.seq (.seq (.reg [0,3,4,10] [mO 7 4,mO 8 0,nO 9 8,bO 10 .lss 7 9])
 (.cond 10 .skip (.exit 0)))
 (.seq (.block 1 (.seq (.reg [0,3,4,5] [mO 13 0,mO 14 4,iO 15 6 13 14,O 16 (.load (some 6) 15),O 5 (.alloc [(.int .i64 0),.e0,(.str []),.e0,.e0,.e0]),sO (.store 6 5 16)])
 (.seq (.reg [0,3,4,5] [O 17 (.bsl0),fO 18 1 5,lO 19 18,O 20 (.app 1 17 19),fO 21 1 5,sO (.store 1 21 20)])
 (.seq (.reg [0,3,4,5] [fO 22 3 5,lO 23 22,(cO 24 93 [23]),fO 25 3 5,sO (.store 1 25 24)])
 (.seq (.reg [0,3,4,5] [O 26 (.bsl0),fO 27 4 5,lO 28 27,O 29 (.app 1 26 28),fO 30 4 5,sO (.store 1 30 29)])
 (.seq (.reg [0,3,4,5] [O 31 (.bsl0),fO 32 5 5,lO 33 32,O 34 (.app 1 31 33),fO 35 5 5,sO (.store 1 35 34)])
 (.frz 5 0 (.reg [0,3,4] [mO 36 3,O 37 (.load (some 6) 5),O 38 (.bsl 6 [37]),O 39 (.app 6 36 38),mO 3 39]))))))))
 (.reg [0,3,4] [mO 11 4,bO 12 .add 11 (kI 1),mO 4 12]))))))
 (.seq (.reg [2] [mO 40 3,mO 2 40])
 .ret)))
def cy73:List (Nat×An):=[(2,.t (.lst (.nm .Stp))),(6,.t (.lst (.nm .Stp))),(3,.t (.lst (.nm .Stp))),(4,.t (.int .i64)),(7,.t (.int .i64)),(8,.t (.lst (.nm .Stp))),(9,.t (.int .i64)),(10,.t .bool),(13,.t (.lst (.nm .Stp))),(14,.t (.int .i64)),(16,.t (.nm .Stp)),(5,.cells ⟨some .Stp,[some ((.int .i64),.no),some ((.lst .str),.no),some (.str,.no),some ((.lst (.nm .Sel)),.no),some ((.lst (.int .i64)),.no),some ((.lst .str),.no)]⟩),(17,.t (.lst .str)),(19,.t (.lst .str)),(20,.t (.lst .str)),(23,.t (.lst (.nm .Sel))),(24,.t (.lst (.nm .Sel))),(26,.t (.lst (.int .i64))),(28,.t (.lst (.int .i64))),(29,.t (.lst (.int .i64))),(31,.t (.lst .str)),(33,.t (.lst .str)),(34,.t (.lst .str)),(36,.t (.lst (.nm .Stp))),(37,.t (.nm .Stp)),(38,.t (.lst (.nm .Stp))),(39,.t (.lst (.nm .Stp))),(11,.t (.int .i64)),(12,.t (.int .i64)),(40,.t (.lst (.nm .Stp)))]
def c80:CC :=
 .seq (.reg [0] [O 2 (.mv (.c (.sl 2 [])))])
 (.seq (.reg [0,3] [mO 13 0,(cO 14 33 [13,(kI 3)]),bO 15 .add (kI 1) 14,mO 3 15])
 (.seq (.reg [0,3,4] [O 16 (.bsl0),mO 4 16])
 (.seq (.seq (.reg [0,3,4,5] [mO 5 (kI 0)])
 (.block 0 (.lp false 0 [4,5] [0,3] (.seq (.seq (.reg [0,3,4,5,19] [mO 17 5,mO 18 3,bO 19 .lss 17 18])
 (.cond 19 .skip (.exit 0)))
 (.seq (.block 1 (.seq (.reg [0,3,4,5,6] [O 22 (.bsl 1 [(.c (.str [101,97,115,116])),(.c (.str [119,101,115,116])),(.c (.str [110,111,114,116,104]))]),mO 23 5,iO 24 1 22 23,lO 25 24,mO 6 25])
 (.reg [0,3,4,5] [mO 26 4,mO 27 6,mO 28 5,(cO 29 95 [28]),O 30 (.bin .add (.c (.str [110])) 29),O 31 (.build [(.str []),(.str []),(.bool false),(.bool false),(.bool false),(.bool false),(.bool false),.sl 1 []] [(0,1,30),(1,1,(.c (.str [105,110,116])))]),O 32 (.bslm 8 [31]),O 33 (.build [(.str []),(.str []),.sl 8 []] [(0,1,(.c (.str [113,117,101,114,121]))),(2,1,32)]),O 34 (.bslm 3 [33]),O 35 (.build [(.str []),.sl 3 []] [(0,1,27),(1,1,34)]),O 36 (.bslm 2 [35]),O 37 (.app 2 26 36),mO 4 37])))
 (.reg [0,3,4,5] [mO 20 5,bO 21 .add 20 (kI 1),mO 5 21]))))))
 (.seq (.reg [0,3,4,7] [(cO 38 84 []),mO 7 38])
 (.seq (.reg [0,3,4,7,8] [mO 39 0,mO 40 3,(cO 41 33 [39,40]),mO 8 41])
 (.seq (.seq (.reg [0,3,4,7,8,9] [mO 9 (kI 0)])
 (.block 2 (.lp false 2 [9] [0,3,4,7,8] (.seq (.seq (.reg [0,3,4,7,8,9,45] [mO 42 9,mO 43 7,nO 44 43,bO 45 .lss 42 44])
 (.cond 45 .skip (.exit 2)))
 (.seq (.block 3 (.seq (.reg [0,3,4,7,8,9,10] [mO 10 (kI 0)])
 (.block 4 (.lp false 4 [10] [0,3,4,7,8,9] (.seq (.seq (.reg [0,3,4,7,8,9,10,55] [mO 48 10,mO 49 7,mO 50 9,iO 51 3 49 50,fO 52 2 51,lO 53 52,nO 54 53,bO 55 .lss 48 54])
 (.cond 55 .skip (.exit 4)))
 (.seq (.block 5 (.seq (.reg [0,3,4,7,8,9,10,11] [mO 58 7,mO 59 9,iO 60 3 58 59,fO 61 2 60,lO 62 61,mO 63 10,iO 64 8 62 63,O 65 (.load (some 8) 64),O 11 (.alloc [(.str []),(.str []),(.bool false),(.bool false),(.bool false),(.bool false),(.bool false),.e0]),sO (.store 8 11 65)])
 (.seq (.seq (.reg [0,3,4,7,8,9,10,11,88] [fO 66 0 11,lO 67 66,O 68 (.bin .eql 67 (.c (.str [105,100]))),mO 69 68,gF 70 69 (.fa 0 11),gF 71 69 (.load none 70),gF 72 69 (.bin .eql 71 (.c (.str [98,111,100,121]))),O 73 (.pick 69 kT 72),mO 74 73,gF 75 74 (.fa 0 11),gF 76 74 (.load none 75),gF 77 74 (.bin .neq 76 (.c (.str [97,103,101]))),gF 78 74 (.mv 77),gT 79 78 (.fa 0 11),gT 80 78 (.load none 79),gT 81 78 (.bin .neq 80 (.c (.str [112,114,105,99,101]))),gF 82 74 (.pick 78 81 kF),gF 83 74 (.mv 82),gT 84 83 (.mv 0),gT 85 83 (.call 33 [84,(kI 7)]),gT 86 83 (.bin .eql 85 (kI 0)),gF 87 74 (.pick 83 86 kF),O 88 (.pick 74 kT 87)])
 (.cond 88 (.exit 5) .skip))
 (.seq (.reg [0,3,4,7,8,9,10,11,12] [mO 89 0,mO 90 3,(cO 91 33 [89,90]),mO 12 91])
 (.seq (.seq (.reg [0,3,4,7,8,9,10,11,12,107] [fO 92 1 11,lO 93 92,O 94 (.bin .eql 93 (.c (.str [110,111,116,101]))),mO 95 94,gF 96 95 (.mv 7),gF 97 95 (.mv 9),gF 98 95 (.ia 3 96 97),gF 99 95 (.fa 0 98),gF 100 95 (.load none 99),gF 101 95 (.bin .eql 100 (.c (.str [110,111,116,101]))),O 102 (.pick 95 kT 101),mO 103 102,gT 104 103 (.mv 0),gT 105 103 (.call 33 [104,(kI 12)]),gT 106 103 (.bin .gtr 105 (kI 0)),O 107 (.pick 103 106 kF)])
 (.jn false [12] [0,3,4,7,8,9,10,11] (.cond 107 (.reg [0,3,4,7,8,9,10,11,12] [mO 108 8,mO 12 108]) .skip)))
 (.seq (.reg [0,3,4,7,8,9,10,11,12] [mO 109 0,(cO 110 33 [109,(kI 16)]),bO 111 .eql 110 (kI 0),fO 112 5 11,sO (.store 1 112 111)])
 (.seq (.seq (.reg [0,3,4,7,8,9,10,11,12,126] [fO 113 7 11,lO 114 113,nO 115 114,bO 116 .eql 115 (kI 0),mO 117 116,gF 118 117 (.mv 0),gF 119 117 (.call 33 [118,(kI 8)]),gF 120 117 (.bin .eql 119 (kI 0)),O 121 (.pick 117 kT 120),mO 122 121,gT 123 122 (.mv 0),gT 124 122 (.call 33 [123,(kI 5)]),gT 125 122 (.bin .eql 124 (kI 0)),O 126 (.pick 122 125 kF)])
 (.jn false [] [0,3,4,7,8,9,10,11,12] (.cond 126 (.seq (.reg [0,3,4,7,8,9,10,11,12] [fO 127 6 11,sO (.store 1 127 kT)])
 (.regd [0,3,4,7,8,9,10,11,12] (iota 0 21) [0,0,2,0,14,0,0,64,0,448,992,2016,0,0,12288,28672,61440,0,262112,524287,1048575] [0,0,0,0,0,0,0,0,0,0,0,1,0,0,0,0,1,1,4,0,4] [mO 128 4,mO 129 12,bO 130 .add 129 (kI 1),mO 131 3,bO 132 .rem 130 131,mO 133 4,mO 134 12,bO 135 .add 134 (kI 1),mO 136 3,bO 137 .rem 135 136,iO 138 2 133 137,O 139 (.load (some 2) 138),mO 140 7,mO 141 9,iO 142 3 140 141,fO 143 0 142,lO 144 143,O 145 (.load (some 8) 11),(cO 146 96 [139,144,145]),iO 147 2 128 132,sO (.store 2 147 146)])) .skip)))
 (.regd [0,3,4,7,8,9,10] (iota 0 15) [0,0,0,0,12,28,0,0,192,448,960,0,4092,8191,16383] [0,0,0,0,0,1,0,0,0,0,1,1,4,0,4] [mO 148 4,mO 149 12,mO 150 4,mO 151 12,iO 152 2 150 151,O 153 (.load (some 2) 152),mO 154 7,mO 155 9,iO 156 3 154 155,fO 157 0 156,lO 158 157,O 159 (.load (some 8) 11),(cO 160 96 [153,158,159]),iO 161 2 148 149,sO (.store 2 161 160)]))))))))
 (.reg [0,3,4,7,8,9,10] [mO 56 10,bO 57 .add 56 (kI 1),mO 10 57])))))))
 (.reg [0,3,4,7,8,9] [mO 46 9,bO 47 .add 46 (kI 1),mO 9 47]))))))
 (.seq (.reg [2] [mO 162 4,mO 2 162])
 .ret)))))))
def cy80:List (Nat×An):=[(2,.t (.lst (.nm .Part))),(3,.t (.int .i64)),(16,.o (.nm .Part) (.at [(1,.at [(2,.no)])])),(4,.o (.nm .Part) (.at [(1,.at [(2,.no)])])),(5,.t (.int .i64)),(22,.t (.lst .str)),(31,.t (.nm .Field)),(32,.t (.lst (.nm .Field))),(33,.t (.nm .Typ)),(34,.o (.nm .Typ) (.at [(2,.no)])),(35,.t (.nm .Part)),(36,.o (.nm .Part) (.at [(1,.at [(2,.no)])])),(37,.o (.nm .Part) (.at [(1,.at [(2,.no)])])),(7,.t (.lst (.nm .Typ))),(8,.t (.int .i64)),(9,.t (.int .i64)),(10,.t (.int .i64)),(65,.t (.nm .Field)),(11,.cells ⟨some .Field,[some (.str,.no),some (.str,.no),some (.bool,.no),some (.bool,.no),some (.bool,.no),some (.bool,.no),some (.bool,.no),some ((.lst .str),.no)]⟩),(88,.t .bool),(12,.t (.int .i64)),(107,.t .bool),(126,.t .bool),(139,.t (.nm .Part)),(145,.t (.nm .Field)),(153,.t (.nm .Part)),(159,.t (.nm .Field))]
def c81:CC :=
 .seq (.reg [0] [mO 2 kF,O 3 (.mv (.c (.sl 1 [])))])
 (.seq (.reg [0,4,5] [mO 8 0,(cO 9 70 [8]),mO 7 9,O 10 (.ext 7 0),O 11 (.ext 7 1),O 4 (.alloc [(.str []),.e0,.e0]),O 5 (.alloc [(.int .i64 0),(.str []),(.str []),(.int .i64 0)]),sO (.store 3 4 10),sO (.store 4 5 11)])
 (.frz 4 0 (.frz 5 0 (.seq (.seq (.reg [0,4,14] [fO 12 3 5,lO 13 12,bO 14 .neq 13 (kI 0)])
 (.cond 14 (.seq (.reg [2,3] [O 15 (.bsl 1 []),mO 2 kF,mO 3 15])
 .ret) .skip))
 (.seq (.frz 4 0 (.reg [6] [mO 16 0,fO 17 0 4,O 18 (.load (some 2) 17),(cO 19 97 [16,18]),mO 6 19]))
 (.seq (.frz 6 0 (.regd [2,3] (iota 0 14) [0,1,3,7,15,31,0,0,128,384,896,1984,4095,8191] [0,0,0,1,0,0,0,0,0,0,1,3,0,0] [mO 20 6,O 21 (.nilc 20),fO 22 2 21,lO 23 22,nO 24 23,bO 25 .eql 24 (kI 0),O 26 (.bsl0),mO 27 6,O 28 (.nilc 27),fO 29 2 28,lO 30 29,O 31 (.app 1 26 30),mO 2 25,mO 3 31]))
 .ret))))))
def cy81:List (Nat×An):=[(2,.t .bool),(3,.t (.lst .str)),(4,.cells ⟨some .Chart,[some (.str,.no),some ((.lst (.nm .Typ)),.no),some ((.lst (.nm .Own)),.no)]⟩),(5,.cells ⟨some .CFault,[some ((.int .i64),.no),some (.str,.no),some (.str,.no),some ((.int .i64),.no)]⟩),(15,.t (.lst .str)),(18,.t (.nm .Part)),(26,.t (.lst .str)),(31,.t (.lst .str))]
def c82:CC :=
 .seq (.reg [0,2,3,5] [O 5 (.boxi 2 1),O 8 (.mv (.c (.sl 5 [])))])
 (.seq (.reg [0,2,3,5,9] [O 17 (.bsl0),mO 9 17])
 (.seq (.reg [0,2,3,5,9,10] [O 18 (.load (some 2) 5),mO 19 2,(cO 20 98 [18,19]),mO 10 20])
 (.seq (.seq (.reg [0,2,3,5,9,10,26] [mO 21 10,bO 22 .lss 21 (kI 0),mO 23 22,gF 24 23 (.mv 3),gF 25 23 (.bin .gtr 24 (kI 5)),O 26 (.pick 23 kT 25)])
 (.cond 26 (.seq (.reg [8] [mO 27 9,mO 8 27])
 .ret) .skip))
 (.seq (.reg [0,2,3,5,9,11] [fO 28 1 5,lO 29 28,mO 30 10,iO 31 3 29 30,O 32 (.load (some 3) 31),O 11 (.alloc [(.str []),(.str []),.e0]),sO (.store 3 11 32)])
 (.frz 11 0 (.seq (.seq (.reg [0,2,3,5,9,11,12] [mO 33 0,(cO 34 33 [33,(kI 3)]),bO 35 .add (kI 1) 34,mO 12 35])
 (.block 0 (.lp false 0 [9,12] [0,2,3,5,11] (.seq (.seq (.reg [0,2,3,5,9,11,12,37] [mO 36 12,bO 37 .gtr 36 (kI 0)])
 (.cond 37 .skip (.exit 0)))
 (.seq (.block 1 (.seq (.regd [0,2,3,5,9,11,12,13] (iota 0 11) [0,1,0,0,8,24,60,127,255,0,1023] [0,0,0,0,0,0,4,0,0,4,4] [fO 40 2 11,lO 41 40,mO 42 0,fO 43 2 11,lO 44 43,nO 45 44,(cO 46 33 [42,45]),iO 47 8 41 46,O 48 (.load (some 8) 47),O 13 (.alloc [(.str []),(.str []),(.bool false),(.bool false),(.bool false),(.bool false),(.bool false),.e0]),sO (.store 8 13 48)])
 (.frz 13 0 (.seq (.reg [0,2,3,5,9,11,12,13,14] [fO 49 0 13,lO 50 49,O 51 (.build [(.str []),(.str []),(.bool false),(.int .i64 0),.sl 5 []] [(1,1,50)]),O 14 (.alloc [(.str []),(.str []),(.bool false),(.int .i64 0),.e0]),sO (.store 5 14 51)])
 (.seq (.seq (.reg [0,2,3,5,9,11,12,13,14,54] [mO 52 0,(cO 53 33 [52,(kI 5)]),bO 54 .eql 53 (kI 0)])
 (.jn false [] [0,2,3,5,9,11,12,13,14] (.cond 54 (.reg [0,2,3,5,9,11,12,13,14] [mO 55 0,O 56 (.bsl 1 [(.c (.str [97])),(.c (.str [98])),(.c (.str [99]))]),(cO 57 99 [55,56]),fO 58 0 14,sO (.store 1 58 57)]) .skip)))
 (.seq (.seq (.reg [0,2,3,5,9,11,12,13,14,62] [fO 59 1 13,lO 60 59,(cO 61 100 [60]),O 62 (.not 61)])
 (.jn true [] [0,2,3,5,9,11,12,13,14] (.cond 62 (.seq (.frz 13 0 (.reg [0,2,3,5,9,11,12,13,14] [mO 63 0,O 64 (.load (some 2) 5),fO 65 1 13,lO 66 65,mO 67 3,bO 68 .add 67 (kI 1),(cO 69 82 [63,64,66,68]),fO 70 4 14,sO (.store 1 70 69)]))
 (.seq (.seq (.reg [0,2,3,5,9,11,12,13,14,74] [fO 71 4 14,lO 72 71,nO 73 72,bO 74 .eql 73 (kI 0)])
 (.cond 74 (.exit 1) .skip))
 (.seq (.reg [0,2,3,5,9,11,12,13,14,86] [mO 75 2,O 76 (.bin .eql 75 (.c (.str [113,117,101,114,121]))),mO 77 76,gT 78 77 (.fa 2 13),gT 79 77 (.load none 78),gT 80 77 (.not 79),O 81 (.pick 77 80 kF),mO 82 81,gT 83 82 (.mv 0),gT 84 82 (.call 33 [83,(kI 2)]),gT 85 82 (.bin .eql 84 (kI 0)),O 86 (.pick 82 85 kF)])
 (.jn false [] [0,2,3,5,9,11,12,13,14] (.cond 86 (.seq (.reg [0,2,3,5,9,11,12,13,14] [fO 87 2 14,sO (.store 1 87 kT)])
 (.reg [0,2,3,5,9,11,12,13,14] [mO 88 0,(cO 89 33 [88,(kI 5)]),fO 90 3 14,sO (.store 1 90 89)])) .skip))))) .skip)))
 (.seq (.seq (.reg [0,2,3,5,9,11,12,14,97] [fO 91 5 13,lO 92 91,mO 93 92,gT 94 93 (.mv 0),gT 95 93 (.call 33 [94,(kI 8)]),gT 96 93 (.bin .gtr 95 (kI 0)),O 97 (.pick 93 96 kF)])
 (.cond 97 (.exit 1) .skip))
 (.seq (.reg [0,2,3,5,9,11,12,14,15] [mO 15 kF])
 (.seq (.seq (.reg [0,2,3,5,9,11,12,14,15,16] [mO 16 (kI 0)])
 (.block 2 (.lp false 2 [15,16] [0,2,3,5,9,11,12,14] (.seq (.seq (.reg [0,2,3,5,9,11,12,14,15,16,101] [mO 98 16,mO 99 9,nO 100 99,bO 101 .lss 98 100])
 (.cond 101 .skip (.exit 2)))
 (.seq (.block 3 (.regd [0,2,3,5,9,11,12,14,15,16] (iota 0 12) [0,1,3,3,15,31,63,3,255,511,1023,2047] [0,0,0,0,0,1,2,1,2,0,0,0] [mO 104 15,mO 105 104,gF 106 105 (.mv 9),gF 107 105 (.mv 16),gF 108 105 (.ia 5 106 107),gF 109 105 (.load (some 5) 108),gF 110 105 (.call 101 [109]),gF 111 105 (.load (some 5) 14),gF 112 105 (.call 101 [111]),gF 113 105 (.bin .eql 110 112),O 114 (.pick 105 kT 113),mO 15 114]))
 (.reg [0,2,3,5,9,11,12,14,15,16] [mO 102 16,bO 103 .add 102 (kI 1),mO 16 103]))))))
 (.seq (.reg [0,2,3,5,9,11,12,14,123] [mO 115 15,O 116 (.not 115),mO 117 116,gT 118 117 (.fa 0 14),gT 119 117 (.load none 118),gT 120 117 (.fa 1 14),gT 121 117 (.load none 120),gT 122 117 (.bin .neq 119 121),O 123 (.pick 117 122 kF)])
 (.jn false [9] [0,2,3,5,11,12] (.cond 123 (.frz 14 0 (.reg [0,2,3,5,9,11,12] [mO 124 9,O 125 (.load (some 5) 14),O 126 (.bsl 5 [125]),O 127 (.app 5 124 126),mO 9 127])) .skip))))))))))))
 (.reg [0,2,3,5,9,11,12] [mO 38 12,bO 39 .sub 38 (kI 1),mO 12 39]))))))
 (.seq (.reg [8] [mO 128 9,mO 8 128])
 .ret)))))))
def cy82:List (Nat×An):=[(5,.cells ⟨some .Part,[some (.str,.no),some ((.lst (.nm .Typ)),.no)]⟩),(8,.t (.lst (.nm .Sel))),(17,.t (.lst (.nm .Sel))),(9,.t (.lst (.nm .Sel))),(18,.t (.nm .Part)),(19,.t .str),(20,.t (.int .i64)),(10,.t (.int .i64)),(21,.t (.int .i64)),(22,.t .bool),(23,.t .bool),(24,.t (.int .i64)),(25,.t .bool),(26,.t .bool),(27,.t (.lst (.nm .Sel))),(29,.t (.lst (.nm .Typ))),(30,.t (.int .i64)),(32,.t (.nm .Typ)),(11,.cells ⟨some .Typ,[some (.str,.no),some (.str,.no),some ((.lst (.nm .Field)),.no)]⟩),(34,.t (.int .i64)),(35,.t (.int .i64)),(12,.t (.int .i64)),(36,.t (.int .i64)),(37,.t .bool),(41,.t (.lst (.nm .Field))),(44,.t (.lst (.nm .Field))),(45,.t (.int .i64)),(46,.t (.int .i64)),(48,.t (.nm .Field)),(13,.cells ⟨some .Field,[some (.str,.no),some (.str,.no),some (.bool,.no),some (.bool,.no),some (.bool,.no),some (.bool,.no),some (.bool,.no),some ((.lst .str),.no)]⟩),(50,.t .str),(51,.t (.nm .Sel)),(14,.cells ⟨some .Sel,[some (.str,.no),some (.str,.no),some (.bool,.no),some ((.int .i64),.no),some ((.lst (.nm .Sel)),.no)]⟩),(53,.t (.int .i64)),(54,.t .bool),(56,.t (.lst .str)),(57,.t .str),(60,.t .str),(61,.t .bool),(62,.t .bool),(64,.t (.nm .Part)),(66,.t .str),(67,.t (.int .i64)),(68,.t (.int .i64)),(69,.t (.lst (.nm .Sel))),(72,.t (.lst (.nm .Sel))),(73,.t (.int .i64)),(74,.t .bool),(75,.t .str),(76,.t .bool),(77,.t .bool),(79,.t .bool),(80,.t .bool),(81,.t .bool),(82,.t .bool),(84,.t (.int .i64)),(85,.t .bool),(86,.t .bool),(89,.t (.int .i64)),(92,.t .bool),(93,.t .bool),(95,.t (.int .i64)),(96,.t .bool),(97,.t .bool),(15,.t .bool),(16,.t (.int .i64)),(98,.t (.int .i64)),(99,.t (.lst (.nm .Sel))),(100,.t (.int .i64)),(101,.t .bool),(104,.t .bool),(105,.t .bool),(106,.t (.lst (.nm .Sel))),(107,.t (.int .i64)),(109,.t (.nm .Sel)),(110,.t .str),(111,.t (.nm .Sel)),(112,.t .str),(113,.t .bool),(114,.t .bool),(102,.t (.int .i64)),(103,.t (.int .i64)),(115,.t .bool),(116,.t .bool),(117,.t .bool),(119,.t .str),(121,.t .str),(122,.t .bool),(123,.t .bool),(124,.t (.lst (.nm .Sel))),(125,.t (.nm .Sel)),(126,.t (.lst (.nm .Sel))),(127,.t (.lst (.nm .Sel))),(38,.t (.int .i64)),(39,.t (.int .i64)),(128,.t (.lst (.nm .Sel)))]
def c83:CC :=
 .seq (.reg [0] [mO 2 kF])
 (.seq (.reg [2] [mO 3 0,nO 4 3,bO 5 .gtr 4 (kI 0),mO 6 5,gT 7 6 (.mv 0),gT 8 6 (.call 102 [7,(kI 1),(kI 24)]),gT 9 6 (.bin .geq 8 (kI 0)),O 10 (.pick 6 9 kF),mO 11 10,gT 12 11 (.mv 0),gT 13 11 (.call 103 [12]),gT 14 11 (.lens 13),gT 15 11 (.bin .leq 14 (kI 400)),O 16 (.pick 11 15 kF),mO 2 16])
 .ret)
def cy83:List (Nat×An):=[(2,.t .bool)]
def c84:CC :=
 .seq (.reg [] [O 0 (.mv (.c (.sl 3 [])))])
 (.seq (.reg [1] [O 5 (.build [(.str []),(.str []),(.bool false),(.bool false),(.bool false),(.bool false),(.bool false),.sl 1 []] [(0,1,(.c (.str [105,100]))),(1,1,(.c (.str [105,110,116]))),(3,1,kT)]),O 6 (.build [(.str []),(.str []),(.bool false),(.bool false),(.bool false),(.bool false),(.bool false),.sl 1 []] [(0,1,(.c (.str [110,97,109,101]))),(1,1,(.c (.str [116,101,120,116]))),(3,1,kT)]),O 7 (.build [(.str []),(.str []),(.bool false),(.bool false),(.bool false),(.bool false),(.bool false),.sl 1 []] [(0,1,(.c (.str [98,111,115,115]))),(1,1,(.c (.str [117,115,101,114])))]),O 8 (.build [(.str []),(.str []),(.bool false),(.bool false),(.bool false),(.bool false),(.bool false),.sl 1 []] [(0,1,(.c (.str [97,103,101]))),(1,1,(.c (.str [105,110,116])))]),O 9 (.build [(.str []),(.str []),(.bool false),(.bool false),(.bool false),(.bool false),(.bool false),.sl 1 []] [(0,1,(.c (.str [108,105,107,101,115]))),(1,1,(.c (.str [105,116,101,109]))),(2,1,kT)]),O 10 (.bsl 1 [(.c (.str [97,103,101]))]),O 11 (.build [(.str []),(.str []),(.bool false),(.bool false),(.bool false),(.bool false),(.bool false),.sl 1 []] [(0,1,(.c (.str [114,97,110,107]))),(1,1,(.c (.str [105,110,116]))),(7,1,10)]),O 12 (.build [(.str []),(.str []),(.bool false),(.bool false),(.bool false),(.bool false),(.bool false),.sl 1 []] [(0,1,(.c (.str [110,111,116,101]))),(1,1,(.c (.str [110,111,116,101])))]),O 13 (.bsl 8 [5,6,7,8,9,11,12]),O 14 (.build [(.str []),(.str []),.sl 8 []] [(0,1,(.c (.str [117,115,101,114]))),(1,1,(.c (.str [105,100]))),(2,1,13)]),O 1 (.alloc [(.str []),(.str []),.e0]),sO (.store 3 1 14)])
 (.frz 1 0 (.seq (.reg [1,2] [O 15 (.build [(.str []),(.str []),(.bool false),(.bool false),(.bool false),(.bool false),(.bool false),.sl 1 []] [(0,1,(.c (.str [105,100]))),(1,1,(.c (.str [105,110,116]))),(3,1,kT)]),O 16 (.build [(.str []),(.str []),(.bool false),(.bool false),(.bool false),(.bool false),(.bool false),.sl 1 []] [(0,1,(.c (.str [116,105,116,108,101]))),(1,1,(.c (.str [116,101,120,116])))]),O 17 (.build [(.str []),(.str []),(.bool false),(.bool false),(.bool false),(.bool false),(.bool false),.sl 1 []] [(0,1,(.c (.str [109,97,107,101,114]))),(1,1,(.c (.str [117,115,101,114]))),(3,1,kT)]),O 18 (.build [(.str []),(.str []),(.bool false),(.bool false),(.bool false),(.bool false),(.bool false),.sl 1 []] [(0,1,(.c (.str [112,114,105,99,101]))),(1,1,(.c (.str [105,110,116])))]),O 19 (.build [(.str []),(.str []),(.bool false),(.bool false),(.bool false),(.bool false),(.bool false),.sl 1 []] [(0,1,(.c (.str [102,97,110,115]))),(1,1,(.c (.str [117,115,101,114]))),(2,1,kT),(3,1,kT)]),O 20 (.bsl 1 [(.c (.str [112,114,105,99,101]))]),O 21 (.build [(.str []),(.str []),(.bool false),(.bool false),(.bool false),(.bool false),(.bool false),.sl 1 []] [(0,1,(.c (.str [116,97,120]))),(1,1,(.c (.str [105,110,116]))),(7,1,20)]),O 22 (.build [(.str []),(.str []),(.bool false),(.bool false),(.bool false),(.bool false),(.bool false),.sl 1 []] [(0,1,(.c (.str [115,117,109,115]))),(1,1,(.c (.str [105,110,116]))),(2,1,kT)]),O 23 (.bsl 8 [15,16,17,18,19,21,22]),O 24 (.build [(.str []),(.str []),.sl 8 []] [(0,1,(.c (.str [105,116,101,109]))),(1,1,(.c (.str [105,100]))),(2,1,23)]),O 2 (.alloc [(.str []),(.str []),.e0]),sO (.store 3 2 24)])
 (.frz 2 0 (.seq (.reg [1,2,3] [O 25 (.build [(.str []),(.str []),(.bool false),(.bool false),(.bool false),(.bool false),(.bool false),.sl 1 []] [(0,1,(.c (.str [98,111,100,121]))),(1,1,(.c (.str [116,101,120,116]))),(3,1,kT),(6,1,kT)]),O 26 (.build [(.str []),(.str []),(.bool false),(.bool false),(.bool false),(.bool false),(.bool false),.sl 1 []] [(0,1,(.c (.str [98,121]))),(1,1,(.c (.str [117,115,101,114])))]),O 27 (.bsl 8 [25,26]),O 28 (.build [(.str []),(.str []),.sl 8 []] [(0,1,(.c (.str [110,111,116,101]))),(2,1,27)]),O 3 (.alloc [(.str []),(.str []),.e0]),sO (.store 3 3 28)])
 (.frz 3 0 (.seq (.reg [1,2,3,4] [O 29 (.build [(.str []),(.str []),(.bool false),(.bool false),(.bool false),(.bool false),(.bool false),.sl 1 []] [(0,1,(.c (.str [117,115,101,114,115]))),(1,1,(.c (.str [117,115,101,114]))),(2,1,kT)]),O 30 (.build [(.str []),(.str []),(.bool false),(.bool false),(.bool false),(.bool false),(.bool false),.sl 1 []] [(0,1,(.c (.str [102,105,114,115,116]))),(1,1,(.c (.str [117,115,101,114])))]),O 31 (.build [(.str []),(.str []),(.bool false),(.bool false),(.bool false),(.bool false),(.bool false),.sl 1 []] [(0,1,(.c (.str [105,116,101,109,115]))),(1,1,(.c (.str [105,116,101,109]))),(2,1,kT),(3,1,kT)]),O 32 (.build [(.str []),(.str []),(.bool false),(.bool false),(.bool false),(.bool false),(.bool false),.sl 1 []] [(0,1,(.c (.str [116,111,112]))),(1,1,(.c (.str [105,116,101,109])))]),O 33 (.build [(.str []),(.str []),(.bool false),(.bool false),(.bool false),(.bool false),(.bool false),.sl 1 []] [(0,1,(.c (.str [114,101,97,100,121]))),(1,1,(.c (.str [98,111,111,108])))]),O 34 (.bsl 8 [29,30,31,32,33]),O 35 (.build [(.str []),(.str []),.sl 8 []] [(0,1,(.c (.str [113,117,101,114,121]))),(2,1,34)]),O 4 (.alloc [(.str []),(.str []),.e0]),sO (.store 3 4 35)])
 (.frz 4 0 (.seq (.frz 1 0 (.frz 2 0 (.frz 3 0 (.frz 4 0 (.reg [0] [O 36 (.load (some 3) 4),O 37 (.load (some 3) 1),O 38 (.load (some 3) 2),O 39 (.load (some 3) 3),O 40 (.bsl 3 [36,37,38,39]),mO 0 40])))))
 .ret)))))))))
def cy84:List (Nat×An):=[(0,.t (.lst (.nm .Typ))),(5,.t (.nm .Field)),(6,.t (.nm .Field)),(7,.t (.nm .Field)),(8,.t (.nm .Field)),(9,.t (.nm .Field)),(10,.t (.lst .str)),(11,.t (.nm .Field)),(12,.t (.nm .Field)),(13,.t (.lst (.nm .Field))),(14,.t (.nm .Typ)),(1,.cells ⟨some .Typ,[some (.str,.no),some (.str,.no),some ((.lst (.nm .Field)),.no)]⟩),(15,.t (.nm .Field)),(16,.t (.nm .Field)),(17,.t (.nm .Field)),(18,.t (.nm .Field)),(19,.t (.nm .Field)),(20,.t (.lst .str)),(21,.t (.nm .Field)),(22,.t (.nm .Field)),(23,.t (.lst (.nm .Field))),(24,.t (.nm .Typ)),(2,.cells ⟨some .Typ,[some (.str,.no),some (.str,.no),some ((.lst (.nm .Field)),.no)]⟩),(25,.t (.nm .Field)),(26,.t (.nm .Field)),(27,.t (.lst (.nm .Field))),(28,.t (.nm .Typ)),(3,.cells ⟨some .Typ,[some (.str,.no),some (.str,.no),some ((.lst (.nm .Field)),.no)]⟩),(29,.t (.nm .Field)),(30,.t (.nm .Field)),(31,.t (.nm .Field)),(32,.t (.nm .Field)),(33,.t (.nm .Field)),(34,.t (.lst (.nm .Field))),(35,.t (.nm .Typ)),(4,.cells ⟨some .Typ,[some (.str,.no),some (.str,.no),some ((.lst (.nm .Field)),.no)]⟩),(36,.t (.nm .Typ)),(37,.t (.nm .Typ)),(38,.t (.nm .Typ)),(39,.t (.nm .Typ)),(40,.t (.lst (.nm .Typ)))]
def c85:CC :=
 .seq (.reg [0,2] [O 2 (.alloc [(.int .i64 0),(.str []),(.str []),(.int .i64 0)])])
 (.seq (.seq (.reg [0,2,17] [mO 10 0,nO 11 10,bO 12 .eql 11 (kI 0),mO 13 12,gF 14 13 (.mv 0),gF 15 13 (.lenl 14),gF 16 13 (.bin .gtr 15 (kI 4)),O 17 (.pick 13 kT 16)])
 (.cond 17 (.seq (.reg [2] [O 18 (.build [(.int .i64 0),(.str []),(.str []),(.int .i64 0)] [(3,1,(kI 8))]),sO (.store 4 2 18)])
 .ret) .skip))
 (.seq (.seq (.reg [0,2,3] [mO 3 (kI 0)])
 (.block 0 (.lp true 0 [3] [0,2] (.seq (.seq (.reg [0,2,3,22] [mO 19 3,mO 20 0,nO 21 20,bO 22 .lss 19 21])
 (.cond 22 .skip (.exit 0)))
 (.seq (.block 1 (.seq (.seq (.reg [0,2,3,31] [mO 25 0,mO 26 3,iO 27 2 25 26,O 28 (.load (some 2) 27),(cO 29 87 [28]),O 30 (.field 1 none 29),bO 31 .neq 30 (kI 0)])
 (.cond 31 (.seq (.reg [2] [mO 32 3,bO 33 .add 32 (kI 1),O 34 (.build [(.int .i64 0),(.str []),(.str []),(.int .i64 0)] [(0,1,33),(3,1,(kI 1))]),sO (.store 4 2 34)])
 .ret) .skip))
 (.seq (.reg [0,2,3,4] [mO 4 (kI 0)])
 (.block 2 (.lp true 2 [4] [0,2,3] (.seq (.seq (.reg [0,2,3,4,37] [mO 35 4,mO 36 3,bO 37 .lss 35 36])
 (.cond 37 .skip (.exit 2)))
 (.seq (.block 3 (.seq (.regd [0,2,3,4,50] (iota 0 11) [0,0,3,7,15,0,0,96,224,480,1023] [0,0,0,0,1,0,0,0,0,1,0] [mO 40 0,mO 41 4,iO 42 2 40 41,fO 43 0 42,lO 44 43,mO 45 0,mO 46 3,iO 47 2 45 46,fO 48 0 47,lO 49 48,bO 50 .eql 44 49])
 (.cond 50 (.seq (.reg [2] [mO 51 3,bO 52 .add 51 (kI 1),O 53 (.build [(.int .i64 0),(.str []),(.str []),(.int .i64 0)] [(0,1,52),(3,1,(kI 2))]),sO (.store 4 2 53)])
 .ret) .skip)))
 (.reg [0,2,3,4] [mO 38 4,bO 39 .add 38 (kI 1),mO 4 39]))))))))
 (.reg [0,2,3] [mO 23 3,bO 24 .add 23 (kI 1),mO 3 24]))))))
 (.seq (.seq (.reg [0,2,5] [mO 5 (kI 0)])
 (.block 4 (.lp true 4 [5] [0,2] (.seq (.seq (.reg [0,2,5,57] [mO 54 5,mO 55 0,nO 56 55,bO 57 .lss 54 56])
 (.cond 57 .skip (.exit 4)))
 (.seq (.block 5 (.seq (.reg [0,2,5,6] [mO 6 (kI 0)])
 (.block 6 (.lp true 6 [6] [0,2,5] (.seq (.seq (.reg [0,2,5,6,67] [mO 60 6,mO 61 0,mO 62 5,iO 63 2 61 62,fO 64 1 63,lO 65 64,nO 66 65,bO 67 .lss 60 66])
 (.cond 67 .skip (.exit 6)))
 (.seq (.block 7 (.seq (.reg [0,2,5,6,7] [mO 70 0,mO 71 5,iO 72 2 70 71,fO 73 1 72,lO 74 73,mO 75 6,iO 76 3 74 75,O 77 (.load (some 3) 76),O 7 (.alloc [(.str []),(.str []),.e0]),sO (.store 3 7 77)])
 (.frz 7 0 (.seq (.seq (.regd [0,2,5,6,7,89] (iota 0 12) [0,1,3,7,15,31,15,15,143,463,1023,2047] [0,0,0,0,0,0,0,0,0,4,0,0] [fO 78 1 7,lO 79 78,O 80 (.bin .neq 79 (.c (.str []))),mO 81 80,gT 82 81 (.fa 1 7),gT 83 81 (.load none 82),gT 84 81 (.mv 0),gT 85 81 (.fa 0 7),gT 86 81 (.load none 85),gT 87 81 (.call 104 [84,86]),gT 88 81 (.bin .neq 83 87),O 89 (.pick 81 88 kF)])
 (.cond 89 (.seq (.reg [2] [mO 90 5,bO 91 .add 90 (kI 1),fO 92 0 7,lO 93 92,O 94 (.build [(.int .i64 0),(.str []),(.str []),(.int .i64 0)] [(0,1,91),(1,1,93),(3,1,(kI 4))]),sO (.store 4 2 94)])
 .ret) .skip))
 (.seq (.reg [0,2,5,6,7,8] [mO 8 (kI 0)])
 (.block 8 (.lp true 8 [8] [0,2,5,6,7] (.seq (.seq (.reg [0,2,5,6,7,8,99] [mO 95 8,fO 96 2 7,lO 97 96,nO 98 97,bO 99 .lss 95 98])
 (.cond 99 .skip (.exit 8)))
 (.seq (.block 9 (.seq (.regd [0,2,5,6,7,8,9] (iota 0 11) [0,0,0,4,0,16,0,112,240,511,1023] [0,0,0,0,0,0,0,0,0,4,0] [mO 102 0,mO 103 5,fO 104 0 7,lO 105 104,fO 106 2 7,lO 107 106,mO 108 8,iO 109 8 107 108,O 110 (.load (some 8) 109),(cO 111 105 [102,103,105,110]),mO 9 111])
 (.seq (.reg [0,2,5,6,7,8,9,113] [mO 112 9,bO 113 .neq 112 (kI 0)])
 (.cond 113 (.seq (.regd [2] (iota 0 13) [0,1,0,4,0,16,0,112,240,496,0,2047,4095] [0,0,0,0,0,0,0,0,0,0,0,0,4] [mO 114 5,bO 115 .add 114 (kI 1),fO 116 0 7,lO 117 116,fO 118 2 7,lO 119 118,mO 120 8,iO 121 8 119 120,fO 122 0 121,lO 123 122,mO 124 9,O 125 (.build [(.int .i64 0),(.str []),(.str []),(.int .i64 0)] [(0,1,115),(1,1,117),(2,1,123),(3,1,124)]),sO (.store 4 2 125)])
 .ret) .skip))))
 (.reg [0,2,5,6,7,8] [mO 100 8,bO 101 .add 100 (kI 1),mO 8 101]))))))))))
 (.reg [0,2,5,6] [mO 68 6,bO 69 .add 68 (kI 1),mO 6 69])))))))
 (.reg [0,2,5] [mO 58 5,bO 59 .add 58 (kI 1),mO 5 59]))))))
 (.seq (.reg [2] [O 126 (.build [(.int .i64 0),(.str []),(.str []),(.int .i64 0)] []),sO (.store 4 2 126)])
 .ret))))
def cy85:List (Nat×An):=[(2,.cells ⟨some .CFault,[some ((.int .i64),.no),some (.str,.no),some (.str,.no),some ((.int .i64),.no)]⟩),(17,.t .bool),(18,.t (.nm .CFault)),(3,.t (.int .i64)),(28,.t (.nm .Part)),(30,.t (.int .i64)),(34,.t (.nm .CFault)),(4,.t (.int .i64)),(53,.t (.nm .CFault)),(5,.t (.int .i64)),(6,.t (.int .i64)),(77,.t (.nm .Typ)),(7,.cells ⟨some .Typ,[some (.str,.no),some (.str,.no),some ((.lst (.nm .Field)),.no)]⟩),(89,.t .bool),(94,.t (.nm .CFault)),(8,.t (.int .i64)),(110,.t (.nm .Field)),(126,.t (.nm .CFault))]
def c86:CC :=
 .seq (.reg [0,2] [O 2 (.alloc [(.str []),.e0])])
 (.seq (.reg [0,2,3] [O 9 (.build [(.str []),.e0] [(0,1,(.c (.str [97])))]),O 3 (.alloc [(.str []),.e0]),sO (.store 2 3 9)])
 (.seq (.seq (.reg [0,2,3,4] [mO 4 (kI 0)])
 (.block 0 (.lp false 0 [4] [0,2,3] (.seq (.seq (.reg [0,2,3,4,13] [mO 10 4,mO 11 0,nO 12 11,bO 13 .lss 10 12])
 (.cond 13 .skip (.exit 0)))
 (.seq (.block 1 (.seq (.reg [0,2,3,4,5] [mO 5 (kI 0)])
 (.block 2 (.lp false 2 [5] [0,2,3,4] (.seq (.seq (.reg [0,2,3,4,5,23] [mO 16 5,mO 17 0,mO 18 4,iO 19 2 17 18,fO 20 1 19,lO 21 20,nO 22 21,bO 23 .lss 16 22])
 (.cond 23 .skip (.exit 2)))
 (.seq (.block 3 (.seq (.reg [0,2,3,4,5,6] [mO 26 0,mO 27 4,iO 28 2 26 27,fO 29 1 28,lO 30 29,mO 31 5,iO 32 3 30 31,O 33 (.load (some 3) 32),O 6 (.alloc [(.str []),(.str []),.e0]),sO (.store 3 6 33)])
 (.frz 6 0 (.seq (.reg [0,2,3,4,5,6,7] [O 34 (.load (some 2) 3),fO 35 0 6,lO 36 35,(cO 37 98 [34,36]),mO 7 37])
 (.seq (.seq (.reg [0,2,3,4,5,6,7,39] [mO 38 7,bO 39 .lss 38 (kI 0)])
 (.jn false [7] [0,2,3,4,5,6] (.cond 39 (.seq (.reg [0,2,3,4,5,6,7] [fO 40 1 3,lO 41 40,nO 42 41,mO 7 42])
 (.frz 6 0 (.regd [0,2,3,4,5,6,7] (iota 0 13) [0,1,0,4,0,0,32,112,252,508,1023,2047,4095] [0,1,0,0,0,0,0,2,0,0,3,0,4] [fO 43 1 3,lO 44 43,fO 45 0 6,lO 46 45,mO 47 0,fO 48 0 6,lO 49 48,(cO 50 104 [47,49]),O 51 (.build [(.str []),(.str []),.sl 8 []] [(0,1,46),(1,1,50)]),O 52 (.bsl 3 [51]),O 53 (.app 3 44 52),fO 54 1 3,sO (.store 1 54 53)]))) .skip)))
 (.seq (.reg [0,2,3,4,5,6,7,8] [mO 8 (kI 0)])
 (.block 4 (.lp false 4 [8] [0,2,3,4,5,6,7] (.seq (.seq (.reg [0,2,3,4,5,6,7,8,59] [mO 55 8,fO 56 2 6,lO 57 56,nO 58 57,bO 59 .lss 55 58])
 (.cond 59 .skip (.exit 4)))
 (.seq (.block 5 (.regd [0,2,3,4,5,6,7,8] (iota 0 16) [0,1,0,0,8,0,56,120,0,256,0,1792,3840,8184,16383,32767] [0,1,0,0,1,0,0,1,0,0,0,0,0,2,0,4] [fO 62 1 3,lO 63 62,mO 64 7,fO 65 1 3,lO 66 65,mO 67 7,iO 68 3 66 67,O 69 (.load (some 3) 68),fO 70 2 6,lO 71 70,mO 72 8,iO 73 8 71 72,O 74 (.load (some 8) 73),(cO 75 106 [69,74]),iO 76 3 63 64,sO (.store 3 76 75)]))
 (.reg [0,2,3,4,5,6,7,8] [mO 60 8,bO 61 .add 60 (kI 1),mO 8 61])))))))))))
 (.reg [0,2,3,4,5] [mO 24 5,bO 25 .add 24 (kI 1),mO 5 25])))))))
 (.reg [0,2,3,4] [mO 14 4,bO 15 .add 14 (kI 1),mO 4 15]))))))
 (.seq (.reg [2] [O 77 (.load (some 2) 3),sO (.store 2 2 77)])
 .ret)))
def cy86:List (Nat×An):=[(2,.cells ⟨some .Part,[some (.str,.no),some ((.lst (.nm .Typ)),.no)]⟩),(9,.t (.nm .Part)),(3,.cells ⟨some .Part,[some (.str,.no),some ((.lst (.nm .Typ)),.no)]⟩),(4,.t (.int .i64)),(5,.t (.int .i64)),(33,.t (.nm .Typ)),(6,.cells ⟨some .Typ,[some (.str,.no),some (.str,.no),some ((.lst (.nm .Field)),.no)]⟩),(34,.t (.nm .Part)),(7,.t (.int .i64)),(51,.t (.nm .Typ)),(52,.t (.lst (.nm .Typ))),(53,.t (.lst (.nm .Typ))),(8,.t (.int .i64)),(69,.t (.nm .Typ)),(74,.t (.nm .Field)),(77,.t (.nm .Part))]
def c87:CC :=
 .seq (.reg [1,2] [O 1 (.boxi 2 0),O 2 (.alloc [(.int .i64 0),(.int .i64 0)])])
 (.seq (.seq (.reg [1,2,9] [fO 6 1 1,lO 7 6,nO 8 7,bO 9 .gtr 8 (kI 5)])
 (.cond 9 (.seq (.reg [2] [O 10 (.build [(.int .i64 0),(.int .i64 0)] [(0,1,(kI 6)),(1,1,(kI 6))]),sO (.store 2 2 10)])
 .ret) .skip))
 (.seq (.seq (.reg [1,2,14] [fO 11 0 1,lO 12 11,(cO 13 107 [12]),O 14 (.not 13)])
 (.cond 14 (.seq (.reg [2] [O 15 (.build [(.int .i64 0),(.int .i64 0)] [(1,1,(kI 1))]),sO (.store 2 2 15)])
 .ret) .skip))
 (.seq (.seq (.reg [1,2,35] [fO 16 1 1,lO 17 16,nO 18 17,bO 19 .eql 18 (kI 0),mO 20 19,gF 21 20 (.fa 1 1),gF 22 20 (.load none 21),gF 23 20 (.ia 3 22 (kI 0)),gF 24 20 (.fa 0 23),gF 25 20 (.load none 24),gF 26 20 (.bin .neq 25 (.c (.str [113,117,101,114,121]))),O 27 (.pick 20 kT 26),mO 28 27,gF 29 28 (.fa 1 1),gF 30 28 (.load none 29),gF 31 28 (.ia 3 30 (kI 0)),gF 32 28 (.fa 1 31),gF 33 28 (.load none 32),gF 34 28 (.bin .neq 33 (.c (.str []))),O 35 (.pick 28 kT 34)])
 (.cond 35 (.seq (.reg [2] [O 36 (.build [(.int .i64 0),(.int .i64 0)] [(1,1,(kI 7))]),sO (.store 2 2 36)])
 .ret) .skip))
 (.seq (.seq (.reg [1,2,3] [mO 3 (kI 0)])
 (.block 0 (.lp true 0 [3] [1,2] (.seq (.seq (.reg [1,2,3,41] [mO 37 3,fO 38 1 1,lO 39 38,nO 40 39,bO 41 .lss 37 40])
 (.cond 41 .skip (.exit 0)))
 (.seq (.block 1 (.seq (.reg [1,2,3,4] [O 44 (.load (some 2) 1),mO 45 3,(cO 46 108 [44,45]),mO 4 46])
 (.seq (.seq (.reg [1,2,3,4,48] [mO 47 4,bO 48 .neq 47 (kI 0)])
 (.cond 48 (.seq (.reg [2] [mO 49 3,bO 50 .add 49 (kI 1),mO 51 4,O 52 (.build [(.int .i64 0),(.int .i64 0)] [(0,1,50),(1,1,51)]),sO (.store 2 2 52)])
 .ret) .skip))
 (.seq (.reg [1,2,3,5] [mO 5 (kI 0)])
 (.block 2 (.lp true 2 [5] [1,2,3] (.seq (.seq (.reg [1,2,3,5,61] [mO 53 5,fO 54 1 1,lO 55 54,mO 56 3,iO 57 3 55 56,fO 58 2 57,lO 59 58,nO 60 59,bO 61 .lss 53 60])
 (.cond 61 .skip (.exit 2)))
 (.seq (.block 3 (.seq (.reg [1,2,3,5,74] [fO 64 1 1,lO 65 64,mO 66 3,iO 67 3 65 66,fO 68 2 67,lO 69 68,mO 70 5,iO 71 8 69 70,fO 72 1 71,lO 73 72,O 74 (.bin .eql 73 (.c (.str [113,117,101,114,121])))])
 (.cond 74 (.seq (.reg [2] [mO 75 3,bO 76 .add 75 (kI 1),O 77 (.build [(.int .i64 0),(.int .i64 0)] [(0,1,76),(1,1,(kI 7))]),sO (.store 2 2 77)])
 .ret) .skip)))
 (.reg [1,2,3,5] [mO 62 5,bO 63 .add 62 (kI 1),mO 5 63])))))))))
 (.reg [1,2,3] [mO 42 3,bO 43 .add 42 (kI 1),mO 3 43]))))))
 (.seq (.seq (.reg [2,81] [O 78 (.load (some 2) 1),(cO 79 109 [78]),O 80 (.lens 79),bO 81 .gtr 80 (kI 1500)])
 (.cond 81 (.seq (.reg [2] [O 82 (.build [(.int .i64 0),(.int .i64 0)] [(1,1,(kI 6))]),sO (.store 2 2 82)])
 .ret) .skip))
 (.seq (.reg [2] [O 83 (.build [(.int .i64 0),(.int .i64 0)] []),sO (.store 2 2 83)])
 .ret))))))
def cy87:List (Nat×An):=[(1,.cells ⟨some .Part,[some (.str,.no),some ((.lst (.nm .Typ)),.no)]⟩),(2,.cells ⟨some .PFault,[some ((.int .i64),.no),some ((.int .i64),.no)]⟩),(10,.t (.nm .PFault)),(15,.t (.nm .PFault)),(35,.t .bool),(36,.t (.nm .PFault)),(3,.t (.int .i64)),(44,.t (.nm .Part)),(5,.t (.int .i64)),(77,.t (.nm .PFault)),(78,.t (.nm .Part)),(82,.t (.nm .PFault)),(83,.t (.nm .PFault))]
def c88:CC :=
 .seq (.reg [0,1,2] [O 6 (.mv (.c (.sl 1 [])))])
 (.seq (.reg [0,1,2,7] [O 11 (.bsl0),mO 7 11])
 (.seq (.seq (.reg [0,1,2,7,8] [mO 8 (kI 0)])
 (.block 0 (.lp false 0 [7,8] [0,1,2] (.seq (.seq (.reg [0,1,2,7,8,15] [mO 12 8,mO 13 0,nO 14 13,bO 15 .lss 12 14])
 (.cond 15 .skip (.exit 0)))
 (.seq (.block 1 (.seq (.reg [0,1,2,7,8,9,10] [mO 19 0,mO 20 8,iO 21 2 19 20,O 22 (.load (some 2) 21),mO 23 1,mO 24 2,(cO 25 110 [22,23,24]),mO 18 25,O 26 (.ext 18 0),O 27 (.ext 18 1),O 9 (.alloc [(.str []),(.str []),(.bool false),(.bool false),(.bool false),(.bool false),(.bool false),.e0]),sO (.store 8 9 26),mO 10 27])
 (.frz 9 0 (.seq (.reg [0,1,2,7,8,33] [mO 28 10,mO 29 28,gT 30 29 (.fa 4 9),gT 31 29 (.load none 30),gT 32 29 (.not 31),O 33 (.pick 29 32 kF)])
 (.jn false [7] [0,1,2,8] (.cond 33 (.reg [0,1,2,7,8] [mO 34 7,mO 35 8,O 36 (.bsl 1 [35]),O 37 (.app 1 34 36),mO 7 37]) .skip))))))
 (.reg [0,1,2,7,8] [mO 16 8,bO 17 .add 16 (kI 1),mO 8 17]))))))
 (.seq (.reg [6] [mO 38 7,mO 6 38])
 .ret)))
def cy88:List (Nat×An):=[(6,.t (.lst (.int .i64))),(11,.t (.lst (.int .i64))),(7,.t (.lst (.int .i64))),(8,.t (.int .i64)),(22,.t (.nm .Part)),(9,.cells ⟨some .Field,[some (.str,.no),some (.str,.no),some (.bool,.no),some (.bool,.no),some (.bool,.no),some (.bool,.no),some (.bool,.no),some ((.lst .str),.no)]⟩),(33,.t .bool),(36,.t (.lst (.int .i64))),(37,.t (.lst (.int .i64)))]
def c89:CC :=
 .seq (.reg [1,2,3,4,8] [O 4 (.boxi 2 0),O 8 (.alloc [.e0,(.int .i64 0)])])
 (.seq (.seq (.reg [1,2,3,4,8,9] [mO 9 (kI 0)])
 (.block 0 (.lp true 0 [9] [1,2,3,4,8] (.seq (.seq (.reg [1,2,3,4,8,9,19] [mO 16 9,mO 17 2,nO 18 17,bO 19 .lss 16 18])
 (.cond 19 .skip (.exit 0)))
 (.seq (.block 1 (.seq (.reg [1,2,3,4,8,9,10] [mO 22 2,mO 23 9,iO 24 5 22 23,O 25 (.load (some 5) 24),O 10 (.alloc [(.str []),(.str []),(.bool false),(.int .i64 0),.e0]),sO (.store 5 10 25)])
 (.frz 10 0 (.seq (.regd [1,2,3,4,8,9,10,11] (iota 0 8) [0,0,3,0,15,31,63,127] [0,0,3,0,4,0,3,0] [O 26 (.bsl0),mO 27 3,O 28 (.app 1 26 27),O 29 (.load (some 5) 10),(cO 30 101 [29]),O 31 (.bsl 1 [30]),O 32 (.app 1 28 31),mO 11 32])
 (.seq (.frz 10 0 (.reg [1,2,3,4,8,9,10,11,12,13] [O 34 (.load (some 2) 4),mO 35 1,fO 36 1 10,lO 37 36,(cO 38 110 [34,35,37]),mO 33 38,O 39 (.ext 33 0),O 40 (.ext 33 1),O 12 (.alloc [(.str []),(.str []),(.bool false),(.bool false),(.bool false),(.bool false),(.bool false),.e0]),sO (.store 8 12 39),mO 13 40]))
 (.frz 12 0 (.seq (.reg [1,2,3,4,8,9,10,11,12,13,14] [fO 41 1 12,lO 42 41,(cO 43 100 [42]),mO 14 43])
 (.seq (.block 2 (.seq (.reg [1,2,3,4,8,9,10,11,12,14,44] [mO 45 13,O 46 (.not 45),mO 47 46,gF 48 47 (.fa 5 12),gF 49 47 (.load none 48),O 50 (.pick 47 kT 49),mO 44 50])
 (.cond 44 (.seq (.reg [8] [mO 51 11,O 52 (.build [.e0,(.int .i64 0)] [(0,1,51),(1,1,(kI 1))]),sO (.store 2 8 52)])
 .ret) (.seq (.reg [1,2,3,4,8,9,10,11,12,14,53] [mO 54 14,mO 55 54,gT 56 55 (.fa 4 10),gT 57 55 (.load none 56),gT 58 55 (.lenl 57),gT 59 55 (.bin .gtr 58 (kI 0)),O 60 (.pick 55 59 kF),mO 53 60])
 (.cond 53 (.seq (.reg [8] [mO 61 11,O 62 (.build [.e0,(.int .i64 0)] [(0,1,61),(1,1,(kI 2))]),sO (.store 2 8 62)])
 .ret) (.seq (.reg [1,2,3,4,8,9,10,11,12,14,63] [mO 64 14,O 65 (.not 64),mO 66 65,gT 67 66 (.fa 4 10),gT 68 66 (.load none 67),gT 69 66 (.lenl 68),gT 70 66 (.bin .eql 69 (kI 0)),O 71 (.pick 66 70 kF),mO 63 71])
 (.cond 63 (.seq (.reg [8] [mO 72 11,O 73 (.build [.e0,(.int .i64 0)] [(0,1,72),(1,1,(kI 3))]),sO (.store 2 8 73)])
 .ret) (.seq (.reg [1,2,3,4,8,9,10,11,12,74] [fO 75 2 10,lO 76 75,mO 77 76,gT 78 77 (.mv 14),gT 79 77 (.mv 78),gF 80 79 (.fa 2 12),gF 81 79 (.load none 80),gT 82 77 (.pick 79 kT 81),gT 83 77 (.mv 82),gF 84 83 (.mv 1),gF 85 83 (.bin .neq 84 (.c (.str [113,117,101,114,121]))),gT 86 77 (.pick 83 kT 85),O 87 (.pick 77 86 kF),mO 74 87])
 (.cond 74 (.seq (.reg [8] [mO 88 11,O 89 (.build [.e0,(.int .i64 0)] [(0,1,88),(1,1,(kI 4))]),sO (.store 2 8 89)])
 .ret) .skip)))))))))
 (.seq (.frz 10 0 (.frz 11 0 (.frz 12 0 (.reg [1,2,3,4,8,9,15] [O 90 (.load (some 2) 4),fO 91 1 12,lO 92 91,fO 93 4 10,lO 94 93,mO 95 11,(cO 96 89 [90,92,94,95]),O 15 (.alloc [.e0,(.int .i64 0)]),sO (.store 2 15 96)]))))
 (.frz 15 0 (.seq (.reg [1,2,3,4,8,9,15,99] [fO 97 1 15,lO 98 97,bO 99 .neq 98 (kI 0)])
 (.cond 99 (.seq (.reg [8] [O 100 (.load (some 2) 15),sO (.store 2 8 100)])
 .ret) .skip))))))))))))
 (.reg [1,2,3,4,8,9] [mO 20 9,bO 21 .add 20 (kI 1),mO 9 21]))))))
 (.seq (.reg [8] [O 101 (.build [.e0,(.int .i64 0)] []),sO (.store 2 8 101)])
 .ret))
def cy89:List (Nat×An):=[(4,.cells ⟨some .Part,[some (.str,.no),some ((.lst (.nm .Typ)),.no)]⟩),(8,.cells ⟨some .AFault,[some ((.lst .str),.no),some ((.int .i64),.no)]⟩),(9,.t (.int .i64)),(16,.t (.int .i64)),(17,.t (.lst (.nm .Sel))),(18,.t (.int .i64)),(19,.t .bool),(22,.t (.lst (.nm .Sel))),(23,.t (.int .i64)),(25,.t (.nm .Sel)),(10,.cells ⟨some .Sel,[some (.str,.no),some (.str,.no),some (.bool,.no),some ((.int .i64),.no),some ((.lst (.nm .Sel)),.no)]⟩),(26,.t (.lst .str)),(27,.t (.lst .str)),(28,.t (.lst .str)),(29,.t (.nm .Sel)),(30,.t .str),(31,.t (.lst .str)),(32,.t (.lst .str)),(11,.t (.lst .str)),(34,.t (.nm .Part)),(35,.t .str),(37,.t .str),(39,.t (.nm .Field)),(40,.t .bool),(12,.cells ⟨some .Field,[some (.str,.no),some (.str,.no),some (.bool,.no),some (.bool,.no),some (.bool,.no),some (.bool,.no),some (.bool,.no),some ((.lst .str),.no)]⟩),(13,.t .bool),(42,.t .str),(43,.t .bool),(14,.t .bool),(45,.t .bool),(46,.t .bool),(47,.t .bool),(49,.t .bool),(50,.t .bool),(44,.t .bool),(51,.t (.lst .str)),(52,.t (.nm .AFault)),(54,.t .bool),(55,.t .bool),(57,.t (.lst (.nm .Sel))),(58,.t (.int .i64)),(59,.t .bool),(60,.t .bool),(53,.t .bool),(61,.t (.lst .str)),(62,.t (.nm .AFault)),(64,.t .bool),(65,.t .bool),(66,.t .bool),(68,.t (.lst (.nm .Sel))),(69,.t (.int .i64)),(70,.t .bool),(71,.t .bool),(63,.t .bool),(72,.t (.lst .str)),(73,.t (.nm .AFault)),(76,.t .bool),(77,.t .bool),(78,.t .bool),(79,.t .bool),(81,.t .bool),(82,.t .bool),(83,.t .bool),(84,.t .str),(85,.t .bool),(86,.t .bool),(87,.t .bool),(74,.t .bool),(88,.t (.lst .str)),(89,.t (.nm .AFault)),(90,.t (.nm .Part)),(92,.t .str),(94,.t (.lst (.nm .Sel))),(95,.t (.lst .str)),(96,.t (.nm .AFault)),(15,.cells ⟨some .AFault,[some ((.lst .str),.no),some ((.int .i64),.no)]⟩),(98,.t (.int .i64)),(99,.t .bool),(100,.t (.nm .AFault)),(20,.t (.int .i64)),(21,.t (.int .i64)),(101,.t (.nm .AFault))]
def c90:CC :=
 .seq (.reg [0,1,2] [mO 6 (kI 0)])
 (.seq (.seq (.reg [0,1,2,7] [mO 7 (kI 0)])
 (.block 0 (.lp true 0 [7] [0,1,2] (.seq (.seq (.reg [0,1,2,7,13] [mO 10 7,mO 11 0,nO 12 11,bO 13 .lss 10 12])
 (.cond 13 .skip (.exit 0)))
 (.seq (.block 1 (.seq (.reg [0,1,2,7,8,9] [mO 17 0,mO 18 7,iO 19 2 17 18,O 20 (.load (some 2) 19),mO 21 1,mO 22 2,(cO 23 110 [20,21,22]),mO 16 23,O 24 (.ext 16 0),O 25 (.ext 16 1),O 8 (.alloc [(.str []),(.str []),(.bool false),(.bool false),(.bool false),(.bool false),(.bool false),.e0]),sO (.store 8 8 24),mO 9 25])
 (.frz 8 0 (.seq (.reg [0,1,2,7,43] [mO 26 9,mO 27 26,gT 28 27 (.fa 4 8),gT 29 27 (.load none 28),gT 30 27 (.not 29),O 31 (.pick 27 30 kF),mO 32 31,gT 33 32 (.mv 1),gT 34 32 (.bin .eql 33 (.c (.str [113,117,101,114,121]))),gT 35 32 (.mv 34),gF 36 35 (.mv 0),gF 37 35 (.mv 7),gF 38 35 (.ia 2 36 37),gF 39 35 (.load (some 2) 38),gF 40 35 (.mv 1),gF 41 35 (.call 111 [39,40]),gT 42 32 (.pick 35 kT 41),O 43 (.pick 32 42 kF)])
 (.cond 43 (.seq (.reg [6] [mO 44 7,mO 6 44])
 .ret) .skip)))))
 (.reg [0,1,2,7] [mO 14 7,bO 15 .add 14 (kI 1),mO 7 15]))))))
 (.seq (.reg [6] [O 6 (.mv (.c (.int .i64 (-1))))])
 .ret))
def cy90:List (Nat×An):=[(6,.t (.int .i64)),(7,.t (.int .i64)),(20,.t (.nm .Part)),(8,.cells ⟨some .Field,[some (.str,.no),some (.str,.no),some (.bool,.no),some (.bool,.no),some (.bool,.no),some (.bool,.no),some (.bool,.no),some ((.lst .str),.no)]⟩),(39,.t (.nm .Part)),(43,.t .bool)]
def c91:CC :=
 .seq (.reg [0,1,2,3,4] [mO 10 (kI 0)])
 (.seq (.regd [0] (iota 0 19) [0,0,2,6,14,0,0,0,192,0,0,0,3520,8160,16352,32766,65535,131071,262143] [0,0,0,0,1,0,0,0,3,0,0,0,3,0,0,3,0,0,4] [mO 11 0,mO 12 0,O 13 (.nilc 12),fO 14 3 13,lO 15 14,mO 16 1,O 17 (.bsl0),mO 18 2,O 19 (.apf 1 17 18),mO 20 3,O 21 (.bsl0),mO 22 4,O 23 (.apf 1 21 22),O 24 (.build [(.int .i64 0),.sl 1 [],(.str []),.sl 5 [],.sl 1 [],.sl 1 []] [(0,1,16),(1,1,19),(2,1,20),(4,1,23)]),O 25 (.bsl 6 [24]),O 26 (.app 6 15 25),O 27 (.nilc 11),fO 28 3 27,sO (.store 1 28 26)])
 (.seq (.reg [10] [mO 29 0,O 30 (.nilc 29),fO 31 3 30,lO 32 31,nO 33 32,bO 34 .sub 33 (kI 1),mO 10 34])
 .ret))
def cy91:List (Nat×An):=[(10,.t (.int .i64)),(15,.t (.lst (.nm .Stp))),(16,.t (.int .i64)),(17,.t (.lst .str)),(18,.t (.lst .str)),(19,.t (.lst .str)),(20,.t .str),(21,.t (.lst (.int .i64))),(22,.t (.lst (.int .i64))),(23,.t (.lst (.int .i64))),(24,.t (.nm .Stp)),(25,.t (.lst (.nm .Stp))),(26,.t (.lst (.nm .Stp))),(32,.t (.lst (.nm .Stp))),(33,.t (.int .i64)),(34,.t (.int .i64))]
def c92:CC :=
 .seq (.reg [0,1,2,3,4] [O 10 (.mv (.c (.sl 5 [])))])
 (.seq (.reg [0,1,2,3,4,11] [mO 20 0,O 21 (.nilc 20),fO 22 3 21,lO 23 22,mO 24 1,iO 25 6 23 24,fO 26 0 25,lO 27 26,mO 11 27])
 (.seq (.reg [0,1,2,3,4,11,12] [O 28 (.bsl0),mO 12 28])
 (.seq (.reg [0,1,2,3,4,11,12,13] [mO 29 0,O 30 (.nilc 29),fO 31 0 30,lO 32 31,nO 33 32,O 34 (.mks 1 [.e0] 33),mO 13 34])
 (.seq (.seq (.reg [0,1,2,3,4,11,12,13,14] [mO 14 (kI 0)])
 (.block 0 (.lp true 0 [12,14] [0,1,2,3,4,11,13] (.seq (.seq (.reg [0,1,2,3,4,11,12,13,14,38] [mO 35 14,mO 36 3,nO 37 36,bO 38 .lss 35 37])
 (.cond 38 .skip (.exit 0)))
 (.seq (.block 1 (.seq (.reg [0,1,2,3,4,11,12,13,14,15] [mO 41 3,mO 42 14,iO 43 5 41 42,O 44 (.load (some 5) 43),O 15 (.alloc [(.str []),(.str []),(.bool false),(.int .i64 0),.e0]),sO (.store 5 15 44)])
 (.seq (.regd [0,1,2,3,4,11,12,13,14,15,16] (iota 0 10) [0,1,3,7,0,0,0,64,255,511] [0,0,0,1,0,0,0,1,4,0] [mO 45 0,O 46 (.nilc 45),fO 47 0 46,lO 48 47,mO 49 11,mO 50 2,fO 51 1 15,lO 52 51,(cO 53 112 [48,49,50,52]),mO 16 53])
 (.seq (.seq (.reg [0,1,2,3,4,11,12,13,14,15,16,55] [mO 54 16,bO 55 .lss 54 (kI 0)])
 (.cond 55 (.seq (.reg [12] [mO 56 0,O 57 (.nilc 56),fO 58 4 57,sO (.store 1 58 kF)])
 (.seq (.reg [10] [mO 59 12,mO 10 59])
 .ret)) .skip))
 (.seq (.seq (.regd [0,1,2,3,4,11,12,13,14,15,16,79] (iota 0 20) [0,0,3,7,15,31,63,127,255,511,1023,127,4095,8191,127,127,32895,131071,262143,524287] [0,0,0,0,0,0,0,0,0,0,1,0,0,1,0,0,1,4,0,0] [mO 60 16,mO 61 11,bO 62 .eql 60 61,mO 63 62,gT 64 63 (.mv 2),gT 65 63 (.bin .eql 64 (.c (.str [113,117,101,114,121]))),gT 66 63 (.mv 65),gF 67 66 (.mv 0),gF 68 66 (.nilc 67),gF 69 66 (.fa 0 68),gF 70 66 (.load none 69),gF 71 66 (.mv 11),gF 72 66 (.ia 2 70 71),gF 73 66 (.load (some 2) 72),gF 74 66 (.mv 2),gF 75 66 (.fa 1 15),gF 76 66 (.load none 75),gF 77 66 (.call 113 [73,74,76]),gT 78 63 (.pick 66 kT 77),O 79 (.pick 63 78 kF)])
 (.cond 79 (.seq (.regd [0,1,2,3,4,11,12,13,14,15,17] (iota 0 14) [0,1,3,7,0,0,32,127,255,511,511,0,3071,8191] [0,0,0,1,0,0,1,4,0,0,0,4,4,0] [mO 81 0,O 82 (.nilc 81),fO 83 1 82,O 84 (.load (some 2) 83),mO 85 2,fO 86 1 15,lO 87 86,(cO 88 110 [84,85,87]),mO 80 88,O 89 (.ext 80 0),O 90 (.ext 80 1),O 17 (.alloc [(.str []),(.str []),(.bool false),(.bool false),(.bool false),(.bool false),(.bool false),.e0]),sO (.store 8 17 89),mO 18 90])
 (.frz 17 0 (.seq (.frz 17 0 (.regd [0,1,2,3,4,11,12,13,14,15] (iota 0 16) [0,0,0,4,0,16,0,0,192,0,960,1984,4032,8191,16383,32767] [0,0,0,0,0,1,0,0,3,1,0,0,3,4,0,4] [mO 91 0,mO 92 1,fO 93 1 17,lO 94 93,fO 95 4 15,lO 96 95,O 97 (.bsl0),mO 98 4,O 99 (.app 1 97 98),O 100 (.load (some 5) 15),(cO 101 101 [100]),O 102 (.bsl 1 [101]),O 103 (.apf 1 99 102),(cO 104 92 [91,92,94,96,103]),fO 105 4 15,sO (.store 1 105 104)]))
 (.seq (.frz 15 0 (.reg [0,1,2,3,4,11,12,13,14] [mO 106 12,O 107 (.load (some 5) 15),O 108 (.bsl 5 [107]),O 109 (.app 5 106 108),mO 12 109]))
 (.exit 1))))) .skip))
 (.regd [0,1,2,3,4,11,12,13,14] (iota 0 12) [0,0,3,7,0,15,0,127,255,511,255,1279] [0,0,0,2,2,0,0,3,0,5,0,6] [mO 110 13,mO 111 16,iO 112 1 110 111,lO 113 112,O 114 (.load (some 5) 15),nO 115 113,O 116 (.bsl 5 [(.c (.agg [(.str []),(.str []),(.bool false),(.int .i64 0),.sl 5 []]))]),O 117 (.app 5 113 116),iO 118 5 117 115,sO (.store 5 118 114),iO 119 1 110 111,sO (.store 1 119 117)]))))))
 (.reg [0,1,2,3,4,11,12,13,14] [mO 39 14,bO 40 .add 39 (kI 1),mO 14 40]))))))
 (.seq (.seq (.frz 12 0 (.frz 13 0 (.reg [0,1,2,4,12,13,19] [mO 19 (kI 0)])))
 (.block 2 (.lp false 2 [12,19] [0,1,2,4,13] (.seq (.seq (.reg [0,1,2,4,12,13,19,123] [mO 120 19,mO 121 13,nO 122 121,bO 123 .lss 120 122])
 (.cond 123 .skip (.exit 2)))
 (.seq (.block 3 (.seq (.reg [0,1,2,4,12,13,19,131] [mO 126 13,mO 127 19,iO 128 1 126 127,lO 129 128,nO 130 129,bO 131 .gtr 130 (kI 0)])
 (.jn false [12] [0,1,2,4,13,19] (.cond 131 (.reg [0,1,2,4,12,13,19] [mO 132 0,mO 133 1,mO 134 19,mO 135 2,mO 136 13,mO 137 19,iO 138 1 136 137,lO 139 138,mO 140 4,mO 141 12,(cO 142 114 [132,133,134,135,139,140,141]),mO 12 142]) .skip))))
 (.frz 12 0 (.frz 13 0 (.reg [0,1,2,4,12,13,19] [mO 124 19,bO 125 .add 124 (kI 1),mO 19 125]))))))))
 (.seq (.reg [10] [mO 143 12,mO 10 143])
 .ret))))))
def cy92:List (Nat×An):=[(10,.t (.lst (.nm .Sel))),(23,.t (.lst (.nm .Stp))),(24,.t (.int .i64)),(27,.t (.int .i64)),(11,.t (.int .i64)),(28,.t (.lst (.nm .Sel))),(12,.t (.lst (.nm .Sel))),(32,.t (.lst (.nm .Part))),(33,.t (.int .i64)),(34,.o (.lst (.nm .Sel)) (.at [(0,.no)])),(13,.t (.lst (.lst (.nm .Sel)))),(14,.t (.int .i64)),(35,.t (.int .i64)),(36,.t (.lst (.nm .Sel))),(37,.t (.int .i64)),(38,.t .bool),(41,.t (.lst (.nm .Sel))),(42,.t (.int .i64)),(44,.t (.nm .Sel)),(15,.cells ⟨some .Sel,[some (.str,.no),some (.str,.no),some (.bool,.no),some ((.int .i64),.no),some ((.lst (.nm .Sel)),.no)]⟩),(48,.t (.lst (.nm .Part))),(49,.t (.int .i64)),(50,.t .str),(52,.t .str),(53,.t (.int .i64)),(16,.t (.int .i64)),(54,.t (.int .i64)),(55,.t .bool),(59,.t (.lst (.nm .Sel))),(60,.t (.int .i64)),(61,.t (.int .i64)),(62,.t .bool),(63,.t .bool),(64,.t .str),(65,.t .bool),(66,.t .bool),(70,.t (.lst (.nm .Part))),(71,.t (.int .i64)),(73,.t (.nm .Part)),(74,.t .str),(76,.t .str),(77,.t .bool),(78,.t .bool),(79,.t .bool),(84,.t (.nm .Part)),(85,.t .str),(87,.t .str),(89,.t (.nm .Field)),(90,.t .bool),(17,.cells ⟨some .Field,[some (.str,.no),some (.str,.no),some (.bool,.no),some (.bool,.no),some (.bool,.no),some (.bool,.no),some (.bool,.no),some ((.lst .str),.no)]⟩),(18,.t .bool),(92,.t (.int .i64)),(94,.t .str),(96,.t (.lst (.nm .Sel))),(97,.t (.lst .str)),(98,.t (.lst .str)),(99,.t (.lst .str)),(100,.t (.nm .Sel)),(101,.t .str),(102,.t (.lst .str)),(103,.t (.lst .str)),(104,.t (.lst (.nm .Sel))),(106,.t (.lst (.nm .Sel))),(107,.t (.nm .Sel)),(108,.t (.lst (.nm .Sel))),(109,.t (.lst (.nm .Sel))),(110,.t (.lst (.lst (.nm .Sel)))),(111,.t (.int .i64)),(113,.t (.lst (.nm .Sel))),(114,.t (.nm .Sel)),(115,.t (.int .i64)),(116,.t (.lst (.nm .Sel))),(117,.t (.lst (.nm .Sel))),(39,.t (.int .i64)),(40,.t (.int .i64)),(19,.t (.int .i64)),(120,.t (.int .i64)),(121,.t (.lst (.lst (.nm .Sel)))),(122,.t (.int .i64)),(123,.t .bool),(126,.t (.lst (.lst (.nm .Sel)))),(127,.t (.int .i64)),(129,.t (.lst (.nm .Sel))),(130,.t (.int .i64)),(131,.t .bool),(133,.t (.int .i64)),(134,.t (.int .i64)),(135,.t .str),(136,.t (.lst (.lst (.nm .Sel)))),(137,.t (.int .i64)),(139,.t (.lst (.nm .Sel))),(140,.t (.lst .str)),(141,.t (.lst (.nm .Sel))),(142,.t (.lst (.nm .Sel))),(124,.t (.int .i64)),(125,.t (.int .i64)),(143,.t (.lst (.nm .Sel)))]
def c93:CC :=
 .seq (.reg [0] [O 2 (.mv (.c (.sl 5 [])))])
 (.seq (.reg [0,3] [O 6 (.bsl0),mO 3 6])
 (.seq (.seq (.reg [0,3,4] [mO 4 (kI 0)])
 (.block 0 (.lp false 0 [3,4] [0] (.seq (.seq (.reg [0,3,4,10] [mO 7 4,mO 8 0,nO 9 8,bO 10 .lss 7 9])
 (.cond 10 .skip (.exit 0)))
 (.seq (.block 1 (.seq (.reg [0,3,4,5] [mO 13 0,mO 14 4,iO 15 5 13 14,O 16 (.load (some 5) 15),O 5 (.alloc [(.str []),(.str []),(.bool false),(.int .i64 0),.e0]),sO (.store 5 5 16)])
 (.seq (.reg [0,3,4,5] [fO 17 4 5,lO 18 17,(cO 19 93 [18]),fO 20 4 5,sO (.store 1 20 19)])
 (.frz 5 0 (.reg [0,3,4] [mO 21 3,O 22 (.load (some 5) 5),O 23 (.bsl 5 [22]),O 24 (.app 5 21 23),mO 3 24])))))
 (.reg [0,3,4] [mO 11 4,bO 12 .add 11 (kI 1),mO 4 12]))))))
 (.seq (.reg [2] [mO 25 3,mO 2 25])
 .ret)))
def cy93:List (Nat×An):=[(2,.t (.lst (.nm .Sel))),(6,.t (.lst (.nm .Sel))),(3,.t (.lst (.nm .Sel))),(4,.t (.int .i64)),(7,.t (.int .i64)),(8,.t (.lst (.nm .Sel))),(9,.t (.int .i64)),(10,.t .bool),(13,.t (.lst (.nm .Sel))),(14,.t (.int .i64)),(16,.t (.nm .Sel)),(5,.cells ⟨some .Sel,[some (.str,.no),some (.str,.no),some (.bool,.no),some ((.int .i64),.no),some ((.lst (.nm .Sel)),.no)]⟩),(18,.t (.lst (.nm .Sel))),(19,.t (.lst (.nm .Sel))),(21,.t (.lst (.nm .Sel))),(22,.t (.nm .Sel)),(23,.t (.lst (.nm .Sel))),(24,.t (.lst (.nm .Sel))),(11,.t (.int .i64)),(12,.t (.int .i64)),(25,.t (.lst (.nm .Sel)))]
def c95:CC :=
 .seq (.reg [0] [O 2 (.mv (.c (.str [])))])
 (.seq (.seq (.reg [0,4] [mO 3 0,O 4 (.bin .lss 3 (.c (.int .i64 (-9223372036854775807))))])
 (.cond 4 (.seq (.reg [2] [O 2 (.mv (.c (.str [45,57,50,50,51,51,55,50,48,51,54,56,53,52,55,55,53,56,48,56])))])
 .ret) .skip))
 (.seq (.seq (.reg [0,6] [mO 5 0,bO 6 .lss 5 (kI 0)])
 (.cond 6 (.seq (.reg [2] [mO 7 0,O 8 (.neg 7),(cO 9 95 [8]),O 10 (.bin .add (.c (.str [45])) 9),mO 2 10])
 .ret) .skip))
 (.seq (.seq (.reg [0,12] [mO 11 0,bO 12 .lss 11 (kI 10)])
 (.cond 12 (.seq (.reg [2] [mO 13 0,bO 14 .add (kI 48) 13,O 15 (.conv .u8 14),O 16 (.bsl 1 [15]),O 17 (.b2s 16),mO 2 17])
 .ret) .skip))
 (.seq (.regd [2] (iota 0 11) [0,1,3,0,8,24,56,120,248,511,1023] [0,0,2,0,0,0,0,0,1,0,0] [mO 18 0,bO 19 .quo 18 (kI 10),(cO 20 95 [19]),mO 21 0,bO 22 .rem 21 (kI 10),bO 23 .add (kI 48) 22,O 24 (.conv .u8 23),O 25 (.bsl 1 [24]),O 26 (.b2s 25),bO 27 .add 20 26,mO 2 27])
 .ret))))
def cy95:List (Nat×An):=[(2,.t .str),(16,.t (.lst (.int .u8))),(25,.t (.lst (.int .u8)))]
def c96:CC :=
 .seq (.reg [1,3,5,6] [O 3 (.boxm 2 0),O 5 (.boxi 8 2),O 6 (.alloc [(.str []),.e0])])
 (.seq (.regd [1,3,5,6] (iota 0 7) [0,0,3,0,8,31,63] [1,0,4,0,0,4,4] [O 10 (.load (some 2) 3),mO 11 1,(cO 12 115 [10,11]),fO 13 1 5,lO 14 13,(cO 15 115 [12,14]),sO (.store 2 3 15)])
 (.seq (.reg [3,5,6,7] [O 16 (.load (some 2) 3),mO 17 1,(cO 18 98 [16,17]),mO 7 18])
 (.seq (.regd [3,5,6,7,8] (iota 0 9) [0,1,0,7,15,0,32,127,255] [0,1,0,0,1,0,0,4,0] [fO 19 1 3,lO 20 19,mO 21 7,iO 22 3 20 21,O 23 (.load (some 3) 22),fO 24 0 5,lO 25 24,(cO 26 116 [23,25]),mO 8 26])
 (.seq (.seq (.reg [3,5,6,7,8,28] [mO 27 8,bO 28 .geq 27 (kI 0)])
 (.cond 28 (.seq (.seq (.reg [3,5,6,7,8,39] [fO 29 1 3,lO 30 29,mO 31 7,iO 32 3 30 31,fO 33 2 32,lO 34 33,mO 35 8,iO 36 8 34 35,fO 37 4 36,lO 38 37,O 39 (.not 38)])
 (.cond 39 (.seq (.reg [6] [O 40 (.load (some 2) 3),sO (.store 2 6 40)])
 .ret) .skip))
 (.seq (.regd [3,6] (iota 0 10) [0,1,0,7,15,31,0,0,255,511] [0,1,0,0,0,1,0,0,0,4] [fO 41 1 3,lO 42 41,mO 43 7,iO 44 3 42 43,fO 45 2 44,lO 46 45,mO 47 8,O 48 (.load (some 8) 5),iO 49 8 46 47,sO (.store 8 49 48)])
 (.seq (.reg [6] [O 50 (.load (some 2) 3),sO (.store 2 6 50)])
 .ret))) .skip))
 (.seq (.seq (.reg [3,5,6,7,9] [mO 9 (kI 0)])
 (.block 0 (.lp false 0 [9] [3,5,6,7] (.seq (.seq (.reg [3,5,6,7,9,55] [mO 51 9,fO 52 7 5,lO 53 52,nO 54 53,bO 55 .lss 51 54])
 (.cond 55 .skip (.exit 0)))
 (.seq (.block 1 (.seq (.regd [3,5,6,7,9,69] (iota 0 12) [0,1,0,7,15,0,32,0,224,480,1023,2047] [0,1,0,0,1,0,0,0,0,0,4,0] [fO 58 1 3,lO 59 58,mO 60 7,iO 61 3 59 60,O 62 (.load (some 3) 61),fO 63 7 5,lO 64 63,mO 65 9,iO 66 1 64 65,lO 67 66,(cO 68 116 [62,67]),bO 69 .lss 68 (kI 0)])
 (.jn false [] [3,5,6,7,9] (.cond 69 (.regd [3,5,6,7,9] (iota 0 20) [0,1,0,0,8,0,56,120,248,0,512,0,3584,7680,15872,32256,65528,131071,262143,524287] [0,1,0,0,1,0,0,0,1,0,0,0,0,0,0,3,3,0,0,4] [fO 70 1 3,lO 71 70,mO 72 7,fO 73 1 3,lO 74 73,mO 75 7,iO 76 3 74 75,fO 77 2 76,lO 78 77,fO 79 7 5,lO 80 79,mO 81 9,iO 82 1 80 81,lO 83 82,O 84 (.build [(.str []),(.str []),(.bool false),(.bool false),(.bool false),(.bool false),(.bool false),.sl 1 []] [(0,1,83),(1,1,(.c (.str [105,110,116]))),(4,1,kT)]),O 85 (.bslm 8 [84]),O 86 (.app 8 78 85),iO 87 3 71 72,fO 88 2 87,sO (.store 1 88 86)]) .skip))))
 (.reg [3,5,6,7,9] [mO 56 9,bO 57 .add 56 (kI 1),mO 9 57]))))))
 (.seq (.regd [3,6] (iota 0 15) [0,1,0,0,8,0,56,120,248,0,512,2040,4095,8191,16383] [0,1,0,0,1,0,0,0,1,0,3,3,0,0,4] [fO 89 1 3,lO 90 89,mO 91 7,fO 92 1 3,lO 93 92,mO 94 7,iO 95 3 93 94,fO 96 2 95,lO 97 96,O 98 (.load (some 8) 5),O 99 (.bslm 8 [98]),O 100 (.app 8 97 99),iO 101 3 90 91,fO 102 2 101,sO (.store 1 102 100)])
 (.seq (.reg [6] [O 103 (.load (some 2) 3),sO (.store 2 6 103)])
 .ret)))))))
def cy96:List (Nat×An):=[(3,.cells ⟨some .Part,[some (.str,.no),some ((.lst (.nm .Typ)),.at [(2,.no)])]⟩),(5,.cells ⟨some .Field,[some (.str,.no),some (.str,.no),some (.bool,.no),some (.bool,.no),some (.bool,.no),some (.bool,.no),some (.bool,.no),some ((.lst .str),.no)]⟩),(6,.cells ⟨some .Part,[some (.str,.no),some ((.lst (.nm .Typ)),.at [(2,.no)])]⟩),(10,.t (.nm .Part)),(16,.t (.nm .Part)),(23,.t (.nm .Typ)),(40,.t (.nm .Part)),(50,.t (.nm .Part)),(9,.t (.int .i64)),(62,.t (.nm .Typ)),(84,.t (.nm .Field)),(85,.t (.lst (.nm .Field))),(86,.t (.lst (.nm .Field))),(98,.t (.nm .Field)),(99,.t (.lst (.nm .Field))),(100,.t (.lst (.nm .Field))),(103,.t (.nm .Part))]
def c97:CC :=
 .seq (.reg [0,3] [O 3 (.boxi 2 1),O 4 (.mv (.c .nilp))])
 (.seq (.reg [0,3,5] [O 7 (.build [(.int .i64 0),(.str [])] [(1,1,(.c (.str [113,117,101,114,121])))]),O 8 (.bslm 2 [7]),O 9 (.bsl 1 []),O 10 (.bslm 1 [9]),O 11 (.build [.e0,.e0,.sl 1 []] [(0,1,8),(1,1,10)]),O 12 (.boxm 3 11),mO 5 12])
 (.seq (.seq (.reg [0,3,5,6] [mO 6 (kI 0)])
 (.block 0 (.lp false 0 [6] [0,3,5] (.seq (.seq (.reg [0,3,5,6,19] [mO 13 6,mO 14 5,O 15 (.nilc 14),fO 16 0 15,lO 17 16,nO 18 17,bO 19 .lss 13 18])
 (.cond 19 .skip (.exit 0)))
 (.seq (.block 1 (.reg [0,3,5,6] [mO 22 5,mO 23 0,O 24 (.load (some 2) 3),mO 25 6,(cO 26 117 [22,23,24,25])]))
 (.reg [0,3,5,6] [mO 20 6,bO 21 .add 20 (kI 1),mO 6 21]))))))
 (.seq (.reg [4] [mO 27 5,mO 4 27])
 .ret)))
def cy97:List (Nat×An):=[(3,.cells ⟨some .Part,[some (.str,.no),some ((.lst (.nm .Typ)),.no)]⟩),(7,.t (.nm .Stt)),(8,.t (.lst (.nm .Stt))),(9,.t (.lst .str)),(10,.t (.lst (.lst .str))),(12,.cells ⟨none,[some ((.lst (.nm .Stt)),.no),some ((.lst (.lst .str)),.no),some ((.lst .str),.no)]⟩),(6,.t (.int .i64)),(13,.t (.int .i64)),(17,.t (.lst (.nm .Stt))),(18,.t (.int .i64)),(19,.t .bool),(23,.t (.lst (.nm .Part))),(24,.t (.nm .Part)),(25,.t (.int .i64)),(20,.t (.int .i64)),(21,.t (.int .i64))]
def c98:CC :=
 .seq (.reg [1,2] [O 2 (.boxi 2 0),mO 4 (kI 0)])
 (.seq (.seq (.reg [1,2,5] [mO 5 (kI 0)])
 (.block 0 (.lp true 0 [5] [1,2] (.seq (.seq (.reg [1,2,5,10] [mO 6 5,fO 7 1 2,lO 8 7,nO 9 8,bO 10 .lss 6 9])
 (.cond 10 .skip (.exit 0)))
 (.seq (.block 1 (.seq (.reg [1,2,5,20] [fO 13 1 2,lO 14 13,mO 15 5,iO 16 3 14 15,fO 17 0 16,lO 18 17,mO 19 1,bO 20 .eql 18 19])
 (.cond 20 (.seq (.reg [4] [mO 21 5,mO 4 21])
 .ret) .skip)))
 (.reg [1,2,5] [mO 11 5,bO 12 .add 11 (kI 1),mO 5 12]))))))
 (.seq (.reg [4] [O 4 (.mv (.c (.int .i64 (-1))))])
 .ret))
def cy98:List (Nat×An):=[(2,.cells ⟨some .Part,[some (.str,.no),some ((.lst (.nm .Typ)),.no)]⟩),(4,.t (.int .i64)),(5,.t (.int .i64))]
def c99:CC :=
 .seq (.reg [0,1] [O 4 (.mv (.c (.str [])))])
 (.seq (.reg [4] [mO 5 1,mO 6 0,mO 7 1,nO 8 7,(cO 9 33 [6,8]),iO 10 1 5 9,lO 11 10,mO 4 11])
 .ret)
def cy99:List (Nat×An):=[(4,.t .str)]
def c100:CC :=
 .seq (.reg [0] [mO 2 kF])
 (.seq (.reg [2] [mO 3 0,O 4 (.bin .eql 3 (.c (.str [105,110,116]))),mO 5 4,gF 6 5 (.mv 0),gF 7 5 (.bin .eql 6 (.c (.str [116,101,120,116]))),O 8 (.pick 5 kT 7),mO 9 8,gF 10 9 (.mv 0),gF 11 9 (.bin .eql 10 (.c (.str [98,111,111,108]))),O 12 (.pick 9 kT 11),mO 2 12])
 .ret)
def cy100:List (Nat×An):=[(2,.t .bool)]
def c101:CC :=
 .seq (.reg [1] [O 1 (.boxi 5 0),O 2 (.mv (.c (.str [])))])
 (.seq (.seq (.reg [1,5] [fO 3 0 1,lO 4 3,O 5 (.bin .neq 4 (.c (.str [])))])
 (.cond 5 (.seq (.reg [2] [fO 6 0 1,lO 7 6,mO 2 7])
 .ret) .skip))
 (.seq (.reg [2] [fO 8 1 1,lO 9 8,mO 2 9])
 .ret))
def cy101:List (Nat×An):=[(1,.cells ⟨some .Sel,[some (.str,.no),some (.str,.no),some (.bool,.no),some ((.int .i64),.no),some ((.lst (.nm .Sel)),.no)]⟩),(2,.t .str)]
def c102:CC :=
 .seq (.reg [0,1,2] [mO 6 (kI 0)])
 (.seq (.reg [0,1,7] [mO 11 2,mO 7 11])
 (.seq (.seq (.reg [0,1,7,18] [mO 12 0,nO 13 12,bO 14 .gtr 13 (kI 0),mO 15 14,gT 16 15 (.mv 1),gT 17 15 (.bin .gtr 16 (kI 5)),O 18 (.pick 15 17 kF)])
 (.cond 18 (.seq (.reg [6] [O 6 (.mv (.c (.int .i64 (-1))))])
 .ret) .skip))
 (.seq (.seq (.reg [0,1,7,8] [mO 8 (kI 0)])
 (.block 0 (.lp true 0 [7,8] [0,1] (.seq (.seq (.reg [0,1,7,8,26] [mO 19 8,mO 20 0,nO 21 20,bO 22 .lss 19 21,mO 23 22,gT 24 23 (.mv 7),gT 25 23 (.bin .geq 24 (kI 0)),O 26 (.pick 23 25 kF)])
 (.cond 26 .skip (.exit 0)))
 (.seq (.block 1 (.seq (.reg [0,1,7,8,9] [mO 29 0,mO 30 8,iO 31 5 29 30,O 32 (.load (some 5) 31),O 9 (.alloc [(.str []),(.str []),(.bool false),(.int .i64 0),.e0]),sO (.store 5 9 32)])
 (.frz 9 0 (.seq (.seq (.reg [0,1,7,8,9,70] [fO 33 1 9,lO 34 33,(cO 35 107 [34]),O 36 (.not 35),mO 37 36,gF 38 37 (.fa 0 9),gF 39 37 (.load none 38),gF 40 37 (.bin .neq 39 (.c (.str []))),gF 41 37 (.mv 40),gT 42 41 (.fa 0 9),gT 43 41 (.load none 42),gT 44 41 (.call 107 [43]),gT 45 41 (.not 44),gT 46 41 (.mv 45),gF 47 46 (.fa 0 9),gF 48 46 (.load none 47),gF 49 46 (.fa 1 9),gF 50 46 (.load none 49),gF 51 46 (.bin .eql 48 50),gT 52 41 (.pick 46 kT 51),gF 53 37 (.pick 41 52 kF),O 54 (.pick 37 kT 53),mO 55 54,gF 56 55 (.fa 2 9),gF 57 55 (.load none 56),gF 58 55 (.not 57),gF 59 55 (.mv 58),gT 60 59 (.fa 3 9),gT 61 59 (.load none 60),gT 62 59 (.bin .neq 61 (kI 0)),gF 63 55 (.pick 59 62 kF),O 64 (.pick 55 kT 63),mO 65 64,gF 66 65 (.fa 3 9),gF 67 65 (.load none 66),gF 68 65 (.call 35 [67,(kI 0),(kI 999999)]),gF 69 65 (.not 68),O 70 (.pick 65 kT 69)])
 (.cond 70 (.seq (.reg [6] [O 6 (.mv (.c (.int .i64 (-1))))])
 .ret) .skip))
 (.seq (.seq (.reg [0,1,7,8,9,10] [mO 10 (kI 0)])
 (.block 2 (.lp true 2 [10] [0,1,7,8,9] (.seq (.seq (.reg [0,1,7,8,9,10,73] [mO 71 10,mO 72 8,bO 73 .lss 71 72])
 (.cond 73 .skip (.exit 2)))
 (.seq (.block 3 (.seq (.regd [0,1,7,8,9,10,83] (iota 0 8) [0,0,3,7,15,0,63,127] [0,0,0,1,4,0,4,0] [mO 76 0,mO 77 10,iO 78 5 76 77,O 79 (.load (some 5) 78),(cO 80 101 [79]),O 81 (.load (some 5) 9),(cO 82 101 [81]),bO 83 .eql 80 82])
 (.cond 83 (.seq (.reg [6] [O 6 (.mv (.c (.int .i64 (-1))))])
 .ret) .skip)))
 (.reg [0,1,7,8,9,10] [mO 74 10,bO 75 .add 74 (kI 1),mO 10 75]))))))
 (.reg [0,1,7,8] [fO 84 4 9,lO 85 84,mO 86 1,bO 87 .add 86 (kI 1),mO 88 7,bO 89 .sub 88 (kI 1),(cO 90 102 [85,87,89]),mO 7 90]))))))
 (.reg [0,1,7,8] [mO 27 8,bO 28 .add 27 (kI 1),mO 8 28]))))))
 (.seq (.reg [6] [mO 91 7,mO 6 91])
 .ret))))
def cy102:List (Nat×An):=[(6,.t (.int .i64)),(7,.t (.int .i64)),(18,.t .bool),(8,.t (.int .i64)),(26,.t .bool),(32,.t (.nm .Sel)),(9,.cells ⟨some .Sel,[some (.str,.no),some (.str,.no),some (.bool,.no),some ((.int .i64),.no),some ((.lst (.nm .Sel)),.no)]⟩),(70,.t .bool),(10,.t (.int .i64)),(79,.t (.nm .Sel)),(81,.t (.nm .Sel))]
def c103:CC :=
 .seq (.reg [0] [O 2 (.mv (.c (.str [])))])
 (.seq (.reg [0,3] [O 3 (.mv (.c (.str [123])))])
 (.seq (.seq (.reg [0,3,4] [mO 4 (kI 0)])
 (.block 0 (.lp false 0 [3,4] [0] (.seq (.seq (.reg [0,3,4,9] [mO 6 4,mO 7 0,nO 8 7,bO 9 .lss 6 8])
 (.cond 9 .skip (.exit 0)))
 (.seq (.block 1 (.seq (.reg [0,3,4,5] [mO 12 0,mO 13 4,iO 14 5 12 13,O 15 (.load (some 5) 14),O 5 (.alloc [(.str []),(.str []),(.bool false),(.int .i64 0),.e0]),sO (.store 5 5 15)])
 (.frz 5 0 (.seq (.seq (.reg [0,3,4,5,17] [mO 16 4,bO 17 .gtr 16 (kI 0)])
 (.jn false [3] [0,4,5] (.cond 17 (.reg [0,3,4,5] [mO 18 3,O 19 (.bin .add 18 (.c (.str [44]))),mO 3 19]) .skip)))
 (.seq (.seq (.reg [0,3,4,5,22] [fO 20 0 5,lO 21 20,O 22 (.bin .neq 21 (.c (.str [])))])
 (.jn false [3] [0,4,5] (.cond 22 (.reg [0,3,4,5] [mO 23 3,fO 24 0 5,lO 25 24,bO 26 .add 23 25,O 27 (.bin .add 26 (.c (.str [58]))),mO 3 27]) .skip)))
 (.seq (.reg [0,3,4,5] [mO 28 3,fO 29 1 5,lO 30 29,bO 31 .add 28 30,mO 3 31])
 (.seq (.seq (.reg [0,3,4,5,33] [fO 32 2 5,lO 33 32])
 (.jn false [3] [0,4,5] (.cond 33 (.reg [0,3,4,5] [mO 34 3,O 35 (.bin .add 34 (.c (.str [40]))),fO 36 3 5,lO 37 36,(cO 38 95 [37]),bO 39 .add 35 38,O 40 (.bin .add 39 (.c (.str [41]))),mO 3 40]) .skip)))
 (.seq (.reg [0,3,4,5,44] [fO 41 4 5,lO 42 41,nO 43 42,bO 44 .gtr 43 (kI 0)])
 (.jn false [3] [0,4] (.cond 44 (.reg [0,3,4] [mO 45 3,fO 46 4 5,lO 47 46,(cO 48 103 [47]),bO 49 .add 45 48,mO 3 49]) .skip))))))))))
 (.reg [0,3,4] [mO 10 4,bO 11 .add 10 (kI 1),mO 4 11]))))))
 (.seq (.reg [2] [mO 50 3,O 51 (.bin .add 50 (.c (.str [125]))),mO 2 51])
 .ret)))
def cy103:List (Nat×An):=[(2,.t .str),(3,.t .str),(4,.t (.int .i64)),(15,.t (.nm .Sel)),(5,.cells ⟨some .Sel,[some (.str,.no),some (.str,.no),some (.bool,.no),some ((.int .i64),.no),some ((.lst (.nm .Sel)),.no)]⟩)]
def c104:CC :=
 .seq (.reg [0,1] [O 4 (.mv (.c (.str [])))])
 (.seq (.seq (.reg [0,1,5] [mO 5 (kI 0)])
 (.block 0 (.lp true 0 [5] [0,1] (.seq (.seq (.reg [0,1,5,10] [mO 7 5,mO 8 0,nO 9 8,bO 10 .lss 7 9])
 (.cond 10 .skip (.exit 0)))
 (.seq (.block 1 (.seq (.reg [0,1,5,6] [mO 13 0,mO 14 5,iO 15 2 13 14,O 16 (.load (some 2) 15),mO 17 1,(cO 18 98 [16,17]),mO 6 18])
 (.seq (.reg [0,1,5,6,32] [mO 19 6,bO 20 .geq 19 (kI 0),mO 21 20,gT 22 21 (.mv 0),gT 23 21 (.mv 5),gT 24 21 (.ia 2 22 23),gT 25 21 (.fa 1 24),gT 26 21 (.load none 25),gT 27 21 (.mv 6),gT 28 21 (.ia 3 26 27),gT 29 21 (.fa 1 28),gT 30 21 (.load none 29),gT 31 21 (.bin .neq 30 (.c (.str []))),O 32 (.pick 21 31 kF)])
 (.cond 32 (.seq (.reg [4] [mO 33 0,mO 34 5,iO 35 2 33 34,fO 36 1 35,lO 37 36,mO 38 6,iO 39 3 37 38,fO 40 1 39,lO 41 40,mO 4 41])
 .ret) .skip))))
 (.reg [0,1,5] [mO 11 5,bO 12 .add 11 (kI 1),mO 5 12]))))))
 (.seq (.reg [4] [O 4 (.mv (.c (.str [])))])
 .ret))
def cy104:List (Nat×An):=[(4,.t .str),(5,.t (.int .i64)),(16,.t (.nm .Part)),(6,.t (.int .i64)),(32,.t .bool)]
def c105:CC :=
 .seq (.reg [0,2,7] [O 7 (.boxi 8 3),mO 8 (kI 0)])
 (.seq (.reg [0,2,7,9] [mO 19 0,mO 20 2,fO 21 0 7,lO 22 21,(cO 23 88 [19,20,22]),mO 9 23])
 (.seq (.reg [0,2,7,9,10] [mO 10 (kI 0)])
 (.seq (.reg [0,2,7,9,10,11] [mO 11 (kI 0)])
 (.seq (.seq (.reg [0,2,7,9,10,11,12] [mO 12 (kI 0)])
 (.block 0 (.lp true 0 [10,11,12] [0,2,7,9] (.seq (.seq (.reg [0,2,7,9,10,11,12,27] [mO 24 12,mO 25 0,nO 26 25,bO 27 .lss 24 26])
 (.cond 27 .skip (.exit 0)))
 (.seq (.block 1 (.seq (.regd [0,2,7,9,10,11,12,13,14] (iota 0 14) [0,0,3,7,0,0,32,127,255,511,511,0,3071,8191] [0,0,0,1,0,0,0,4,0,0,0,4,4,0] [mO 31 0,mO 32 12,iO 33 2 31 32,O 34 (.load (some 2) 33),mO 35 2,fO 36 0 7,lO 37 36,(cO 38 110 [34,35,37]),mO 30 38,O 39 (.ext 30 0),O 40 (.ext 30 1),O 13 (.alloc [(.str []),(.str []),(.bool false),(.bool false),(.bool false),(.bool false),(.bool false),.e0]),sO (.store 8 13 39),mO 14 40])
 (.frz 13 0 (.seq (.seq (.reg [0,2,7,9,10,11,12,13,14,47] [mO 41 14,mO 42 41,gT 43 42 (.load (some 8) 7),gT 44 42 (.load (some 8) 13),gT 45 42 (.call 118 [43,44]),gT 46 42 (.not 45),O 47 (.pick 42 46 kF)])
 (.cond 47 (.seq (.reg [8] [mO 8 (kI 3)])
 .ret) .skip))
 (.seq (.seq (.reg [0,2,7,9,10,11,12,13,14,52] [mO 48 14,mO 49 48,gT 50 49 (.fa 6 13),gT 51 49 (.load none 50),O 52 (.pick 49 51 kF)])
 (.jn false [10] [0,2,7,9,11,12,13,14] (.cond 52 (.reg [0,2,7,9,10,11,12,13,14] [mO 53 10,bO 54 .add 53 (kI 1),mO 10 54]) .skip)))
 (.seq (.reg [0,2,7,9,10,11,12,61] [mO 55 14,mO 56 55,gT 57 56 (.fa 7 13),gT 58 56 (.load none 57),gT 59 56 (.lenl 58),gT 60 56 (.bin .gtr 59 (kI 0)),O 61 (.pick 56 60 kF)])
 (.jn false [11] [0,2,7,9,10,12] (.cond 61 (.reg [0,2,7,9,10,11,12] [mO 62 11,bO 63 .add 62 (kI 1),mO 11 63]) .skip))))))))
 (.reg [0,2,7,9,10,11,12] [mO 28 12,bO 29 .add 28 (kI 1),mO 12 29]))))))
 (.seq (.seq (.reg [0,2,7,9,10,11,66] [mO 64 9,nO 65 64,bO 66 .eql 65 (kI 0)])
 (.cond 66 (.seq (.reg [8] [mO 8 (kI 6)])
 .ret) .skip))
 (.seq (.seq (.regd [0,2,7,9,11,83] (iota 0 17) [0,1,3,7,15,31,15,15,207,511,1023,2047,4095,4095,12287,32767,65535] [0,0,0,0,0,0,0,0,4,0,0,0,0,0,0,0,0] [mO 67 9,nO 68 67,bO 69 .gtr 68 (kI 1),mO 70 69,gT 71 70 (.fa 0 7),gT 72 70 (.load none 71),gT 73 70 (.mv 0),gT 74 70 (.mv 2),gT 75 70 (.call 104 [73,74]),gT 76 70 (.bin .neq 72 75),O 77 (.pick 70 76 kF),mO 78 77,gT 79 78 (.mv 10),gT 80 78 (.mv 9),gT 81 78 (.lenl 80),gT 82 78 (.bin .lss 79 81),O 83 (.pick 78 82 kF)])
 (.cond 83 (.seq (.reg [8] [mO 8 (kI 5)])
 .ret) .skip))
 (.seq (.seq (.reg [0,2,7,90] [mO 84 11,bO 85 .gtr 84 (kI 0),mO 86 85,gT 87 86 (.mv 9),gT 88 86 (.lenl 87),gT 89 86 (.bin .gtr 88 (kI 1)),O 90 (.pick 86 89 kF)])
 (.cond 90 (.seq (.reg [8] [mO 8 (kI 7)])
 .ret) .skip))
 (.seq (.seq (.reg [0,2,7,15] [mO 15 (kI 0)])
 (.block 2 (.lp true 2 [15] [0,2,7] (.seq (.seq (.reg [0,2,7,15,95] [mO 91 15,fO 92 7 7,lO 93 92,nO 94 93,bO 95 .lss 91 94])
 (.cond 95 .skip (.exit 2)))
 (.seq (.block 3 (.seq (.reg [0,2,7,15,16] [mO 16 (kI 0)])
 (.block 4 (.lp true 4 [16] [0,2,7,15] (.seq (.seq (.reg [0,2,7,15,16,101] [mO 98 16,mO 99 0,nO 100 99,bO 101 .lss 98 100])
 (.cond 101 .skip (.exit 4)))
 (.seq (.block 5 (.seq (.regd [0,2,7,15,16,17,18] (iota 0 17) [0,0,3,7,0,0,32,0,224,480,1023,2047,4095,4095,0,24575,65535] [0,0,0,1,0,0,0,0,0,0,4,0,0,0,4,4,0] [mO 105 0,mO 106 16,iO 107 2 105 106,O 108 (.load (some 2) 107),mO 109 2,fO 110 7 7,lO 111 110,mO 112 15,iO 113 1 111 112,lO 114 113,(cO 115 110 [108,109,114]),mO 104 115,O 116 (.ext 104 0),O 117 (.ext 104 1),O 17 (.alloc [(.str []),(.str []),(.bool false),(.bool false),(.bool false),(.bool false),(.bool false),.e0]),sO (.store 8 17 116),mO 18 117])
 (.frz 17 0 (.seq (.reg [0,2,7,15,16,124] [mO 118 18,mO 119 118,gT 120 119 (.fa 7 17),gT 121 119 (.load none 120),gT 122 119 (.lenl 121),gT 123 119 (.bin .gtr 122 (kI 0)),O 124 (.pick 119 123 kF)])
 (.cond 124 (.seq (.reg [8] [mO 8 (kI 7)])
 .ret) .skip)))))
 (.reg [0,2,7,15,16] [mO 102 16,bO 103 .add 102 (kI 1),mO 16 103])))))))
 (.reg [0,2,7,15] [mO 96 15,bO 97 .add 96 (kI 1),mO 15 97]))))))
 (.seq (.reg [8] [mO 8 (kI 0)])
 .ret)))))))))
def cy105:List (Nat×An):=[(7,.cells ⟨some .Field,[some (.str,.no),some (.str,.no),some (.bool,.no),some (.bool,.no),some (.bool,.no),some (.bool,.no),some (.bool,.no),some ((.lst .str),.no)]⟩),(8,.t (.int .i64)),(9,.t (.lst (.int .i64))),(10,.t (.int .i64)),(11,.t (.int .i64)),(12,.t (.int .i64)),(34,.t (.nm .Part)),(13,.cells ⟨some .Field,[some (.str,.no),some (.str,.no),some (.bool,.no),some (.bool,.no),some (.bool,.no),some (.bool,.no),some (.bool,.no),some ((.lst .str),.no)]⟩),(14,.t .bool),(43,.t (.nm .Field)),(44,.t (.nm .Field)),(47,.t .bool),(52,.t .bool),(61,.t .bool),(83,.t .bool),(90,.t .bool),(15,.t (.int .i64)),(16,.t (.int .i64)),(108,.t (.nm .Part)),(17,.cells ⟨some .Field,[some (.str,.no),some (.str,.no),some (.bool,.no),some (.bool,.no),some (.bool,.no),some (.bool,.no),some (.bool,.no),some ((.lst .str),.no)]⟩),(124,.t .bool)]
def c106:CC :=
 .seq (.reg [2,3,4] [O 2 (.boxm 3 0),O 3 (.boxi 8 1),O 4 (.alloc [(.str []),(.str []),.e0])])
 (.seq (.reg [2,3,4,5] [O 7 (.load (some 3) 2),fO 8 0 3,lO 9 8,(cO 10 116 [7,9]),mO 5 10])
 (.seq (.seq (.reg [2,3,4,5,12] [mO 11 5,bO 12 .lss 11 (kI 0)])
 (.cond 12 (.seq (.regd [2,4] (iota 0 23) [0,0,2,7,0,16,0,64,0,256,0,1024,0,4096,0,0,32768,114703,262143,524287,1048575,2097151,4194303] [0,0,1,3,0,0,0,0,0,0,0,0,0,0,0,0,0,3,0,0,3,0,4] [O 13 (.bsl0),fO 14 2 2,lO 15 14,O 16 (.app 8 13 15),fO 17 0 3,lO 18 17,fO 19 1 3,lO 20 19,fO 21 2 3,lO 22 21,fO 23 3 3,lO 24 23,fO 25 5 3,lO 26 25,O 27 (.bsl0),fO 28 7 3,lO 29 28,O 30 (.apf 1 27 29),O 31 (.build [(.str []),(.str []),(.bool false),(.bool false),(.bool false),(.bool false),(.bool false),.sl 1 []] [(0,1,18),(1,1,20),(2,1,22),(3,1,24),(5,1,26),(7,1,30)]),O 32 (.bsl 8 [31]),O 33 (.app 8 16 32),fO 34 2 2,sO (.store 1 34 33)])
 (.seq (.reg [4] [O 35 (.load (some 3) 2),sO (.store 3 4 35)])
 .ret)) .skip))
 (.seq (.reg [2,3,4,5,6] [O 36 (.bsl0),fO 37 2 2,lO 38 37,O 39 (.app 8 36 38),mO 6 39])
 (.seq (.seq (.reg [2,3,4,5,6,41] [fO 40 5 3,lO 41 40])
 (.jn false [] [2,3,4,5,6] (.cond 41 (.reg [2,3,4,5,6] [mO 42 6,mO 43 5,iO 44 8 42 43,fO 45 5 44,sO (.store 1 45 kT)]) .skip)))
 (.seq (.seq (.reg [2,3,4,5,6,49] [fO 46 7 3,lO 47 46,nO 48 47,bO 49 .gtr 48 (kI 0)])
 (.jn false [] [2,4,6] (.cond 49 (.reg [2,4,6] [mO 50 6,mO 51 5,O 52 (.bsl0),fO 53 7 3,lO 54 53,O 55 (.apf 1 52 54),iO 56 8 50 51,fO 57 7 56,sO (.store 1 57 55)]) .skip)))
 (.seq (.reg [2,4] [mO 58 6,fO 59 2 2,sO (.store 1 59 58)])
 (.seq (.reg [4] [O 60 (.load (some 3) 2),sO (.store 3 4 60)])
 .ret)))))))
def cy106:List (Nat×An):=[(2,.cells ⟨some .Typ,[some (.str,.no),some (.str,.no),some ((.lst (.nm .Field)),.no)]⟩),(3,.cells ⟨some .Field,[some (.str,.no),some (.str,.no),some (.bool,.no),some (.bool,.no),some (.bool,.no),some (.bool,.no),some (.bool,.no),some ((.lst .str),.no)]⟩),(4,.cells ⟨some .Typ,[some (.str,.no),some (.str,.no),some ((.lst (.nm .Field)),.no)]⟩),(7,.t (.nm .Typ)),(9,.t .str),(10,.t (.int .i64)),(5,.t (.int .i64)),(11,.t (.int .i64)),(12,.t .bool),(13,.t (.lst (.nm .Field))),(15,.t (.lst (.nm .Field))),(16,.t (.lst (.nm .Field))),(18,.t .str),(20,.t .str),(22,.t .bool),(24,.t .bool),(26,.t .bool),(27,.t (.lst .str)),(29,.t (.lst .str)),(30,.t (.lst .str)),(31,.t (.nm .Field)),(32,.t (.lst (.nm .Field))),(33,.t (.lst (.nm .Field))),(35,.t (.nm .Typ)),(36,.t (.lst (.nm .Field))),(38,.t (.lst (.nm .Field))),(39,.t (.lst (.nm .Field))),(6,.t (.lst (.nm .Field))),(41,.t .bool),(42,.t (.lst (.nm .Field))),(43,.t (.int .i64)),(47,.t (.lst .str)),(48,.t (.int .i64)),(49,.t .bool),(50,.t (.lst (.nm .Field))),(51,.t (.int .i64)),(52,.t (.lst .str)),(54,.t (.lst .str)),(55,.t (.lst .str)),(58,.t (.lst (.nm .Field))),(60,.t (.nm .Typ))]
def c107:CC :=
 .seq (.reg [0] [mO 2 kF])
 (.seq (.reg [2] [mO 3 0,(cO 4 119 [3]),mO 5 4,gT 6 5 (.mv 0),gT 7 5 (.lens 6),gT 8 5 (.bin .leq 7 (kI 8)),O 9 (.pick 5 8 kF),mO 10 9,gT 11 10 (.mv 0),gT 12 10 (.idx 11 (kI 0)),gT 13 10 (.bin .neq 12 (.c (.int .u8 95))),O 14 (.pick 10 13 kF),mO 15 14,gT 16 15 (.mv 0),gT 17 15 (.call 100 [16]),gT 18 15 (.not 17),O 19 (.pick 15 18 kF),mO 20 19,gT 21 20 (.mv 0),gT 22 20 (.bin .neq 21 (.c (.str [112,97,114,116]))),O 23 (.pick 20 22 kF),mO 24 23,gT 25 24 (.mv 0),gT 26 24 (.bin .neq 25 (.c (.str [116,121,112,101]))),O 27 (.pick 24 26 kF),mO 28 27,gT 29 28 (.mv 0),gT 30 28 (.bin .neq 29 (.c (.str [107,101,121]))),O 31 (.pick 28 30 kF),mO 32 31,gT 33 32 (.mv 0),gT 34 32 (.bin .neq 33 (.c (.str [102,97,114]))),O 35 (.pick 32 34 kF),mO 36 35,gT 37 36 (.mv 0),gT 38 36 (.bin .neq 37 (.c (.str [104,105,100,100,101,110]))),O 39 (.pick 36 38 kF),mO 40 39,gT 41 40 (.mv 0),gT 42 40 (.bin .neq 41 (.c (.str [115,104,97,114,101,100]))),O 43 (.pick 40 42 kF),mO 44 43,gT 45 44 (.mv 0),gT 46 44 (.bin .neq 45 (.c (.str [110,101,101,100,115]))),O 47 (.pick 44 46 kF),mO 2 47])
 .ret)
def cy107:List (Nat×An):=[(2,.t .bool)]
def c108:CC :=
 .seq (.reg [1,2] [O 2 (.boxi 2 0),mO 4 (kI 0)])
 (.seq (.reg [1,2,5] [fO 12 1 2,lO 13 12,mO 14 1,iO 15 3 13 14,O 16 (.load (some 3) 15),O 5 (.alloc [(.str []),(.str []),.e0]),sO (.store 3 5 16)])
 (.frz 5 0 (.seq (.seq (.reg [1,2,5,43] [fO 17 0 5,lO 18 17,(cO 19 107 [18]),O 20 (.not 19),mO 21 20,gF 22 21 (.fa 1 5),gF 23 21 (.load none 22),gF 24 21 (.bin .neq 23 (.c (.str []))),gF 25 21 (.mv 24),gT 26 25 (.fa 1 5),gT 27 25 (.load none 26),gT 28 25 (.call 107 [27]),gT 29 25 (.not 28),gF 30 21 (.pick 25 29 kF),O 31 (.pick 21 kT 30),mO 32 31,gF 33 32 (.fa 2 5),gF 34 32 (.load none 33),gF 35 32 (.lenl 34),gF 36 32 (.bin .eql 35 (kI 0)),O 37 (.pick 32 kT 36),mO 38 37,gF 39 38 (.fa 2 5),gF 40 38 (.load none 39),gF 41 38 (.lenl 40),gF 42 38 (.bin .gtr 41 (kI 8)),O 43 (.pick 38 kT 42)])
 (.cond 43 (.seq (.reg [4] [mO 4 (kI 1)])
 .ret) .skip))
 (.seq (.seq (.reg [1,2,5,6] [mO 6 (kI 0)])
 (.block 0 (.lp true 0 [6] [1,2,5] (.seq (.seq (.reg [1,2,5,6,48] [mO 44 6,fO 45 2 5,lO 46 45,nO 47 46,bO 48 .lss 44 47])
 (.cond 48 .skip (.exit 0)))
 (.seq (.block 1 (.seq (.reg [1,2,5,6,7] [fO 51 2 5,lO 52 51,mO 53 6,iO 54 8 52 53,O 55 (.load (some 8) 54),O 7 (.alloc [(.str []),(.str []),(.bool false),(.bool false),(.bool false),(.bool false),(.bool false),.e0]),sO (.store 8 7 55)])
 (.frz 7 0 (.seq (.seq (.reg [1,2,5,6,7,71] [fO 56 0 7,lO 57 56,(cO 58 107 [57]),O 59 (.not 58),mO 60 59,gF 61 60 (.fa 1 7),gF 62 60 (.load none 61),gF 63 60 (.call 100 [62]),gF 64 60 (.not 63),gF 65 60 (.mv 64),gT 66 65 (.fa 1 7),gT 67 65 (.load none 66),gT 68 65 (.call 107 [67]),gT 69 65 (.not 68),gF 70 60 (.pick 65 69 kF),O 71 (.pick 60 kT 70)])
 (.cond 71 (.seq (.reg [4] [mO 4 (kI 1)])
 .ret) .skip))
 (.seq (.reg [1,2,5,6,7,8] [mO 8 (kI 0)])
 (.block 2 (.lp true 2 [8] [1,2,5,6,7] (.seq (.seq (.reg [1,2,5,6,7,8,76] [mO 72 8,fO 73 7 7,lO 74 73,nO 75 74,bO 76 .lss 72 75])
 (.cond 76 .skip (.exit 2)))
 (.seq (.block 3 (.seq (.reg [1,2,5,6,7,8,85] [fO 79 7 7,lO 80 79,mO 81 8,iO 82 1 80 81,lO 83 82,(cO 84 107 [83]),O 85 (.not 84)])
 (.cond 85 (.seq (.reg [4] [mO 4 (kI 1)])
 .ret) .skip)))
 (.reg [1,2,5,6,7,8] [mO 77 8,bO 78 .add 77 (kI 1),mO 8 78]))))))))))
 (.reg [1,2,5,6] [mO 49 6,bO 50 .add 49 (kI 1),mO 6 50]))))))
 (.seq (.seq (.reg [2,5,91] [O 86 (.load (some 2) 2),fO 87 0 5,lO 88 87,(cO 89 98 [86,88]),mO 90 1,bO 91 .neq 89 90])
 (.cond 91 (.seq (.reg [4] [mO 4 (kI 2)])
 .ret) .skip))
 (.seq (.seq (.reg [2,5,9] [mO 9 (kI 0)])
 (.block 4 (.lp true 4 [9] [2,5] (.seq (.seq (.reg [2,5,9,96] [mO 92 9,fO 93 2 5,lO 94 93,nO 95 94,bO 96 .lss 92 95])
 (.cond 96 .skip (.exit 4)))
 (.seq (.block 5 (.seq (.regd [2,5,9,108] (iota 0 10) [0,0,2,0,14,30,62,127,0,511] [0,0,0,0,0,0,0,4,0,0] [O 99 (.load (some 3) 5),fO 100 2 5,lO 101 100,mO 102 9,iO 103 8 101 102,fO 104 0 103,lO 105 104,(cO 106 116 [99,105]),mO 107 9,bO 108 .neq 106 107])
 (.cond 108 (.seq (.reg [4] [mO 4 (kI 2)])
 .ret) .skip)))
 (.reg [2,5,9] [mO 97 9,bO 98 .add 97 (kI 1),mO 9 98]))))))
 (.seq (.seq (.reg [2,5,10] [mO 10 (kI 0)])
 (.block 6 (.lp true 6 [10] [2,5] (.seq (.seq (.reg [2,5,10,113] [mO 109 10,fO 110 2 5,lO 111 110,nO 112 111,bO 113 .lss 109 112])
 (.cond 113 .skip (.exit 6)))
 (.seq (.block 7 (.seq (.regd [2,5,10,134] (iota 0 19) [0,1,0,7,15,31,63,127,255,511,511,1535,511,7679,15871,32255,65535,131071,262143] [0,0,0,0,0,0,4,0,0,0,0,0,0,0,0,0,4,0,0] [fO 116 2 5,lO 117 116,mO 118 10,iO 119 8 117 118,fO 120 1 119,lO 121 120,(cO 122 100 [121]),O 123 (.not 122),mO 124 123,gT 125 124 (.load (some 2) 2),gT 126 124 (.fa 2 5),gT 127 124 (.load none 126),gT 128 124 (.mv 10),gT 129 124 (.ia 8 127 128),gT 130 124 (.fa 1 129),gT 131 124 (.load none 130),gT 132 124 (.call 98 [125,131]),gT 133 124 (.bin .lss 132 (kI 0)),O 134 (.pick 124 133 kF)])
 (.cond 134 (.seq (.reg [4] [mO 4 (kI 3)])
 .ret) .skip)))
 (.reg [2,5,10] [mO 114 10,bO 115 .add 114 (kI 1),mO 10 115]))))))
 (.seq (.seq (.reg [5,137] [O 135 (.load (some 3) 5),(cO 136 120 [135]),O 137 (.not 136)])
 (.cond 137 (.seq (.reg [4] [mO 4 (kI 4)])
 .ret) .skip))
 (.seq (.seq (.reg [5,11] [mO 11 (kI 0)])
 (.block 8 (.lp true 8 [11] [5] (.seq (.seq (.reg [5,11,142] [mO 138 11,fO 139 2 5,lO 140 139,nO 141 140,bO 142 .lss 138 141])
 (.cond 142 .skip (.exit 8)))
 (.seq (.block 9 (.seq (.regd [5,11,168] (iota 0 24) [0,0,2,0,14,30,63,127,255,511,1023,511,4095,8191,16383,32767,65535,131071,65535,524287,1048575,2097151,4194303,8388607] [0,0,0,0,0,0,4,0,0,0,0,0,0,0,0,0,0,0,0,0,0,0,0,0] [O 145 (.load (some 3) 5),fO 146 2 5,lO 147 146,mO 148 11,iO 149 8 147 148,O 150 (.load (some 8) 149),(cO 151 121 [145,150]),O 152 (.not 151),mO 153 152,gF 154 153 (.fa 2 5),gF 155 153 (.load none 154),gF 156 153 (.mv 11),gF 157 153 (.ia 8 155 156),gF 158 153 (.fa 4 157),gF 159 153 (.load none 158),gF 160 153 (.mv 159),gT 161 160 (.fa 2 5),gT 162 160 (.load none 161),gT 163 160 (.mv 11),gT 164 160 (.ia 8 162 163),gT 165 160 (.fa 6 164),gT 166 160 (.load none 165),gF 167 153 (.pick 160 166 kF),O 168 (.pick 153 kT 167)])
 (.cond 168 (.seq (.reg [4] [mO 4 (kI 5)])
 .ret) .skip)))
 (.reg [5,11] [mO 143 11,bO 144 .add 143 (kI 1),mO 11 144]))))))
 (.seq (.reg [4] [mO 4 (kI 0)])
 .ret))))))))))
def cy108:List (Nat×An):=[(2,.cells ⟨some .Part,[some (.str,.no),some ((.lst (.nm .Typ)),.no)]⟩),(4,.t (.int .i64)),(16,.t (.nm .Typ)),(5,.cells ⟨some .Typ,[some (.str,.no),some (.str,.no),some ((.lst (.nm .Field)),.no)]⟩),(43,.t .bool),(6,.t (.int .i64)),(55,.t (.nm .Field)),(7,.cells ⟨some .Field,[some (.str,.no),some (.str,.no),some (.bool,.no),some (.bool,.no),some (.bool,.no),some (.bool,.no),some (.bool,.no),some ((.lst .str),.no)]⟩),(71,.t .bool),(8,.t (.int .i64)),(86,.t (.nm .Part)),(9,.t (.int .i64)),(99,.t (.nm .Typ)),(10,.t (.int .i64)),(125,.t (.nm .Part)),(134,.t .bool),(135,.t (.nm .Typ)),(11,.t (.int .i64)),(145,.t (.nm .Typ)),(150,.t (.nm .Field)),(168,.t .bool)]
def c109:CC :=
 .seq (.reg [1] [O 1 (.boxi 2 0),O 2 (.mv (.c (.str [])))])
 (.seq (.reg [1,3] [fO 7 0 1,lO 8 7,O 9 (.bin .add (.c (.str [112,97,114,116,32])) 8),O 10 (.bin .add 9 (.c (.str [10]))),mO 3 10])
 (.seq (.seq (.reg [1,3,4] [mO 4 (kI 0)])
 (.block 0 (.lp false 0 [3,4] [1] (.seq (.seq (.reg [1,3,4,15] [mO 11 4,fO 12 1 1,lO 13 12,nO 14 13,bO 15 .lss 11 14])
 (.cond 15 .skip (.exit 0)))
 (.seq (.block 1 (.seq (.reg [1,3,4,5] [fO 18 1 1,lO 19 18,mO 20 4,iO 21 3 19 20,O 22 (.load (some 3) 21),O 5 (.alloc [(.str []),(.str []),.e0]),sO (.store 3 5 22)])
 (.frz 5 0 (.seq (.reg [1,3,4,5] [mO 23 3,O 24 (.bin .add 23 (.c (.str [116,121,112,101,32]))),fO 25 0 5,lO 26 25,bO 27 .add 24 26,mO 3 27])
 (.seq (.seq (.reg [1,3,4,5,30] [fO 28 1 5,lO 29 28,O 30 (.bin .neq 29 (.c (.str [])))])
 (.jn false [3] [1,4,5] (.cond 30 (.reg [1,3,4,5] [mO 31 3,O 32 (.bin .add 31 (.c (.str [32,107,101,121,32]))),fO 33 1 5,lO 34 33,bO 35 .add 32 34,mO 3 35]) .skip)))
 (.seq (.reg [1,3,4,5] [mO 36 3,O 37 (.bin .add 36 (.c (.str [10]))),mO 3 37])
 (.seq (.reg [1,3,4,5,6] [mO 6 (kI 0)])
 (.block 2 (.lp false 2 [3,6] [1,4,5] (.seq (.seq (.reg [1,3,4,5,6,42] [mO 38 6,fO 39 2 5,lO 40 39,nO 41 40,bO 42 .lss 38 41])
 (.cond 42 .skip (.exit 2)))
 (.seq (.block 3 (.reg [1,3,4,5,6] [mO 45 3,fO 46 2 5,lO 47 46,mO 48 6,iO 49 8 47 48,O 50 (.load (some 8) 49),(cO 51 122 [50]),bO 52 .add 45 51,mO 3 52]))
 (.reg [1,3,4,5,6] [mO 43 6,bO 44 .add 43 (kI 1),mO 6 44]))))))))))))
 (.reg [1,3,4] [mO 16 4,bO 17 .add 16 (kI 1),mO 4 17]))))))
 (.seq (.reg [2] [mO 53 3,mO 2 53])
 .ret)))
def cy109:List (Nat×An):=[(1,.cells ⟨some .Part,[some (.str,.no),some ((.lst (.nm .Typ)),.no)]⟩),(2,.t .str),(3,.t .str),(4,.t (.int .i64)),(22,.t (.nm .Typ)),(5,.cells ⟨some .Typ,[some (.str,.no),some (.str,.no),some ((.lst (.nm .Field)),.no)]⟩),(6,.t (.int .i64)),(50,.t (.nm .Field))]
def c110:CC :=
 .seq (.reg [1,2,3,6] [O 3 (.boxi 2 0),O 6 (.alloc [(.str []),(.str []),(.bool false),(.bool false),(.bool false),(.bool false),(.bool false),.e0]),mO 7 kF])
 (.seq (.reg [2,3,6,8] [O 10 (.load (some 2) 3),mO 11 1,(cO 12 98 [10,11]),mO 8 12])
 (.seq (.seq (.reg [2,3,6,8,14] [mO 13 8,bO 14 .lss 13 (kI 0)])
 (.cond 14 (.seq (.reg [6,7] [O 15 (.build [(.str []),(.str []),(.bool false),(.bool false),(.bool false),(.bool false),(.bool false),.e0] []),sO (.store 8 6 15),mO 7 kF])
 .ret) .skip))
 (.seq (.reg [3,6,8,9] [fO 16 1 3,lO 17 16,mO 18 8,iO 19 3 17 18,O 20 (.load (some 3) 19),mO 21 2,(cO 22 116 [20,21]),mO 9 22])
 (.seq (.seq (.reg [3,6,8,9,24] [mO 23 9,bO 24 .lss 23 (kI 0)])
 (.cond 24 (.seq (.reg [6,7] [O 25 (.build [(.str []),(.str []),(.bool false),(.bool false),(.bool false),(.bool false),(.bool false),.e0] []),sO (.store 8 6 25),mO 7 kF])
 .ret) .skip))
 (.seq (.reg [6,7] [fO 26 1 3,lO 27 26,mO 28 8,iO 29 3 27 28,fO 30 2 29,lO 31 30,mO 32 9,iO 33 8 31 32,O 34 (.load (some 8) 33),sO (.store 8 6 34),mO 7 kT])
 .ret)))))
def cy110:List (Nat×An):=[(3,.cells ⟨some .Part,[some (.str,.no),some ((.lst (.nm .Typ)),.no)]⟩),(6,.cells ⟨some .Field,[some (.str,.no),some (.str,.no),some (.bool,.no),some (.bool,.no),some (.bool,.no),some (.bool,.no),some (.bool,.no),some ((.lst .str),.no)]⟩),(7,.t .bool),(10,.t (.nm .Part)),(15,.t (.nm .Field)),(20,.t (.nm .Typ)),(25,.t (.nm .Field)),(34,.t (.nm .Field))]
def c111:CC :=
 .seq (.reg [1,2] [O 2 (.boxi 2 0),mO 4 kF])
 (.seq (.reg [2,5] [O 6 (.load (some 2) 2),mO 7 1,(cO 8 98 [6,7]),mO 5 8])
 (.seq (.reg [4] [mO 9 5,bO 10 .geq 9 (kI 0),mO 11 10,gT 12 11 (.fa 1 2),gT 13 11 (.load none 12),gT 14 11 (.mv 5),gT 15 11 (.ia 3 13 14),gT 16 11 (.fa 1 15),gT 17 11 (.load none 16),gT 18 11 (.bin .neq 17 (.c (.str []))),O 19 (.pick 11 18 kF),mO 4 19])
 .ret))
def cy111:List (Nat×An):=[(2,.cells ⟨some .Part,[some (.str,.no),some ((.lst (.nm .Typ)),.no)]⟩),(4,.t .bool),(6,.t (.nm .Part))]
def c112:CC :=
 .seq (.reg [0,1,2,3] [mO 8 (kI 0)])
 (.seq (.seq (.reg [0,1,2,3,23] [mO 13 2,O 14 (.bin .neq 13 (.c (.str [113,117,101,114,121]))),mO 15 14,gT 16 15 (.mv 0),gT 17 15 (.mv 1),gT 18 15 (.ia 2 16 17),gT 19 15 (.load (some 2) 18),gT 20 15 (.mv 2),gT 21 15 (.mv 3),gT 22 15 (.call 113 [19,20,21]),O 23 (.pick 15 22 kF)])
 (.cond 23 (.seq (.reg [8] [mO 24 1,mO 8 24])
 .ret) .skip))
 (.seq (.reg [0,1,2,3,9] [mO 25 0,mO 26 2,mO 27 3,(cO 28 90 [25,26,27]),mO 9 28])
 (.seq (.seq (.reg [0,1,2,3,9,34] [mO 29 2,O 30 (.bin .eql 29 (.c (.str [113,117,101,114,121]))),mO 31 30,gF 32 31 (.mv 9),gF 33 31 (.bin .lss 32 (kI 0)),O 34 (.pick 31 kT 33)])
 (.cond 34 (.seq (.reg [8] [mO 35 9,mO 8 35])
 .ret) .skip))
 (.seq (.reg [0,1,2,9,10] [mO 37 0,mO 38 9,iO 39 2 37 38,O 40 (.load (some 2) 39),mO 41 2,mO 42 3,(cO 43 110 [40,41,42]),mO 36 43,O 44 (.ext 36 0),O 45 (.ext 36 1),O 10 (.alloc [(.str []),(.str []),(.bool false),(.bool false),(.bool false),(.bool false),(.bool false),.e0]),sO (.store 8 10 44),mO 11 45])
 (.frz 10 0 (.seq (.seq (.reg [0,1,2,9,10,52] [mO 46 0,mO 47 1,iO 48 2 46 47,O 49 (.load (some 2) 48),mO 50 2,(cO 51 111 [49,50]),O 52 (.not 51)])
 (.cond 52 (.seq (.reg [8] [O 8 (.mv (.c (.int .i64 (-1))))])
 .ret) .skip))
 (.seq (.seq (.reg [0,1,2,9,10,12] [mO 12 (kI 0)])
 (.block 0 (.lp true 0 [12] [0,1,2,9,10] (.seq (.seq (.reg [0,1,2,9,10,12,57] [mO 53 12,fO 54 7 10,lO 55 54,nO 56 55,bO 57 .lss 53 56])
 (.cond 57 .skip (.exit 0)))
 (.seq (.block 1 (.seq (.regd [0,1,2,9,10,12,82] (iota 0 23) [0,0,3,7,0,0,32,0,224,480,1023,2047,4095,8191,8191,8191,40959,8191,237567,499711,1048575,2097151,4194303] [0,0,0,1,0,0,0,0,0,0,4,0,0,0,0,0,0,0,0,0,4,0,0] [mO 60 0,mO 61 1,iO 62 2 60 61,O 63 (.load (some 2) 62),mO 64 2,fO 65 7 10,lO 66 65,mO 67 12,iO 68 1 66 67,lO 69 68,(cO 70 113 [63,64,69]),O 71 (.not 70),mO 72 71,gT 73 72 (.mv 0),gT 74 72 (.mv 2),gT 75 72 (.fa 7 10),gT 76 72 (.load none 75),gT 77 72 (.mv 12),gT 78 72 (.ia 1 76 77),gT 79 72 (.load none 78),gT 80 72 (.call 90 [73,74,79]),gT 81 72 (.bin .lss 80 (kI 0)),O 82 (.pick 72 81 kF)])
 (.cond 82 (.seq (.reg [8] [O 8 (.mv (.c (.int .i64 (-1))))])
 .ret) .skip)))
 (.reg [0,1,2,9,10,12] [mO 58 12,bO 59 .add 58 (kI 1),mO 12 59]))))))
 (.seq (.reg [8] [mO 83 9,mO 8 83])
 .ret))))))))
def cy112:List (Nat×An):=[(8,.t (.int .i64)),(19,.t (.nm .Part)),(23,.t .bool),(9,.t (.int .i64)),(34,.t .bool),(40,.t (.nm .Part)),(10,.cells ⟨some .Field,[some (.str,.no),some (.str,.no),some (.bool,.no),some (.bool,.no),some (.bool,.no),some (.bool,.no),some (.bool,.no),some ((.lst .str),.no)]⟩),(49,.t (.nm .Part)),(12,.t (.int .i64)),(63,.t (.nm .Part)),(82,.t .bool)]
def c113:CC :=
 .seq (.reg [1,2,3] [O 3 (.boxi 2 0),mO 6 kF])
 (.seq (.reg [7,8] [O 10 (.load (some 2) 3),mO 11 1,mO 12 2,(cO 13 110 [10,11,12]),mO 9 13,O 14 (.ext 9 0),O 15 (.ext 9 1),O 7 (.alloc [(.str []),(.str []),(.bool false),(.bool false),(.bool false),(.bool false),(.bool false),.e0]),sO (.store 8 7 14),mO 8 15])
 (.frz 7 0 (.seq (.reg [6] [mO 16 8,mO 17 16,gT 18 17 (.fa 4 7),gT 19 17 (.load none 18),gT 20 17 (.not 19),O 21 (.pick 17 20 kF),mO 22 21,gT 23 22 (.fa 7 7),gT 24 22 (.load none 23),gT 25 22 (.lenl 24),gT 26 22 (.bin .eql 25 (kI 0)),O 27 (.pick 22 26 kF),mO 6 27])
 .ret)))
def cy113:List (Nat×An):=[(3,.cells ⟨some .Part,[some (.str,.no),some ((.lst (.nm .Typ)),.no)]⟩),(6,.t .bool),(10,.t (.nm .Part)),(7,.cells ⟨some .Field,[some (.str,.no),some (.str,.no),some (.bool,.no),some (.bool,.no),some (.bool,.no),some (.bool,.no),some (.bool,.no),some ((.lst .str),.no)]⟩)]
def c114:CC :=
 .seq (.reg [0,1,2,3,4,5,6] [O 14 (.mv (.c (.sl 5 [])))])
 (.seq (.seq (.reg [0,1,2,3,4,5,6,29] [mO 28 3,O 29 (.bin .eql 28 (.c (.str [113,117,101,114,121])))])
 (.cond 29 (.seq (.reg [0,3,4,5,6,15] [mO 30 0,mO 31 2,mO 32 5,mO 33 3,O 34 (.bsl 1 []),(cO 35 91 [30,31,32,33,34]),mO 15 35])
 (.seq (.reg [0,6,15,16] [mO 36 0,mO 37 15,mO 38 3,mO 39 4,mO 40 5,(cO 41 92 [36,37,38,39,40]),mO 16 41])
 (.seq (.reg [6] [mO 42 0,O 43 (.nilc 42),fO 44 3 43,lO 45 44,mO 46 15,mO 47 16,iO 48 6 45 46,fO 49 3 48,sO (.store 1 49 47)])
 (.seq (.reg [14] [mO 50 6,mO 14 50])
 .ret)))) .skip))
 (.seq (.regd [0,1,2,3,4,5,6] (iota 0 18) [0,0,2,6,14,30,0,64,192,448,0,1984,4094,8190,16382,32766,65535,131071] [0,0,0,0,0,1,0,0,0,1,0,2,0,0,1,0,2,0] [mO 51 6,mO 52 0,O 53 (.nilc 52),fO 54 1 53,fO 55 1 54,lO 56 55,mO 57 0,O 58 (.nilc 57),fO 59 1 58,O 60 (.load (some 2) 59),mO 61 3,(cO 62 98 [60,61]),iO 63 3 56 62,fO 64 1 63,lO 65 64,O 66 (.build [(.str []),(.str []),(.bool false),(.int .i64 0),.sl 5 []] [(0,1,(.c (.str [95,105,100]))),(1,1,65)]),(cO 67 123 [51,66]),mO 6 67])
 (.seq (.reg [0,1,2,3,4,5,6,17] [mO 68 0,O 69 (.nilc 68),fO 70 3 69,lO 71 70,mO 72 1,iO 73 6 71 72,fO 74 0 73,lO 75 74,mO 17 75])
 (.seq (.reg [0,1,2,3,4,5,6,17,18] [mO 76 1,O 77 (.bslm 1 [76]),mO 18 77])
 (.seq (.reg [0,1,2,3,4,5,6,17,18,19] [O 78 (.bsl 1 []),mO 19 78])
 (.seq (.seq (.reg [0,1,2,3,4,5,6,17,18,19,20] [mO 20 (kI 0)])
 (.block 0 (.lp false 0 [19,20] [0,1,2,3,4,5,6,17,18] (.seq (.seq (.reg [0,1,2,3,4,5,6,17,18,19,20,82] [mO 79 20,mO 80 4,nO 81 80,bO 82 .lss 79 81])
 (.cond 82 .skip (.exit 0)))
 (.seq (.block 1 (.seq (.regd [0,1,2,3,4,5,6,17,18,19,20,21] (iota 0 20) [0,1,3,7,0,31,63,0,0,0,768,1792,3840,8191,16383,32767,32767,0,196607,524287] [0,0,0,1,0,0,1,0,0,0,0,0,1,4,0,0,0,4,4,0] [mO 86 0,O 87 (.nilc 86),fO 88 0 87,lO 89 88,mO 90 2,iO 91 2 89 90,O 92 (.load (some 2) 91),mO 93 3,mO 94 4,mO 95 20,iO 96 5 94 95,fO 97 1 96,lO 98 97,(cO 99 110 [92,93,98]),mO 85 99,O 100 (.ext 85 0),O 101 (.ext 85 1),O 21 (.alloc [(.str []),(.str []),(.bool false),(.bool false),(.bool false),(.bool false),(.bool false),.e0]),sO (.store 8 21 100),mO 22 101])
 (.frz 21 0 (.seq (.reg [0,1,2,3,4,5,6,17,18,19,20,21,23] [mO 23 (kI 0)])
 (.block 2 (.lp false 2 [19,23] [0,1,2,3,4,5,6,17,18,20,21] (.seq (.seq (.reg [0,1,2,3,4,5,6,17,18,19,20,21,23,106] [mO 102 23,fO 103 7 21,lO 104 103,nO 105 104,bO 106 .lss 102 105])
 (.cond 106 .skip (.exit 2)))
 (.seq (.block 3 (.reg [0,1,2,3,4,5,6,17,18,19,20,21,23] [mO 109 19,fO 110 7 21,lO 111 110,mO 112 23,iO 113 1 111 112,lO 114 113,(cO 115 124 [109,114]),mO 19 115]))
 (.reg [0,1,2,3,4,5,6,17,18,19,20,21,23] [mO 107 23,bO 108 .add 107 (kI 1),mO 23 108])))))))))
 (.reg [0,1,2,3,4,5,6,17,18,19,20] [mO 83 20,bO 84 .add 83 (kI 1),mO 20 84]))))))
 (.seq (.seq (.reg [0,1,2,3,4,5,6,17,18,19,24] [mO 24 (kI 0)])
 (.block 4 (.lp false 4 [6,18,24] [0,1,2,3,4,5,17,19] (.seq (.seq (.reg [0,1,2,3,4,5,6,17,18,19,24,119] [mO 116 24,mO 117 19,nO 118 117,bO 119 .lss 116 118])
 (.cond 119 .skip (.exit 4)))
 (.seq (.block 5 (.seq (.seq (.regd [0,1,2,3,4,5,6,17,18,19,24,134] (iota 0 13) [0,1,3,7,0,31,63,0,0,0,768,1792,4095] [0,0,0,1,0,0,1,0,0,0,0,1,4] [mO 122 0,O 123 (.nilc 122),fO 124 0 123,lO 125 124,mO 126 17,iO 127 2 125 126,O 128 (.load (some 2) 127),mO 129 3,mO 130 19,mO 131 24,iO 132 1 130 131,lO 133 132,(cO 134 113 [128,129,133])])
 (.cond 134 (.seq (.reg [0,1,2,3,4,5,6,17,18,19,24] [mO 135 6,mO 136 19,mO 137 24,iO 138 1 136 137,lO 139 138,(cO 140 125 [139]),(cO 141 123 [135,140]),mO 6 141])
 (.exit 5)) .skip))
 (.seq (.regd [0,1,2,3,4,5,6,17,18,19,24,25] (iota 0 17) [0,0,2,6,14,0,0,0,192,448,1022,0,0,0,8192,32767,65535] [0,0,0,0,1,0,0,0,0,1,4,0,0,0,0,4,0] [mO 142 0,mO 143 0,O 144 (.nilc 143),fO 145 0 144,lO 146 145,mO 147 3,mO 148 19,mO 149 24,iO 150 1 148 149,lO 151 150,(cO 152 90 [146,147,151]),mO 153 5,mO 154 3,mO 155 1,O 156 (.bsl 1 [155]),(cO 157 91 [142,152,153,154,156]),mO 25 157])
 (.seq (.regd [0,1,2,3,4,5,6,17,18,19,24,25] (iota 0 14) [0,1,3,7,0,0,0,96,224,480,992,2047,4095,8191] [0,0,0,1,0,0,0,0,1,2,0,0,0,4] [mO 158 0,O 159 (.nilc 158),fO 160 3 159,lO 161 160,mO 162 25,mO 163 19,mO 164 24,iO 165 1 163 164,lO 166 165,(cO 167 125 [166]),O 168 (.bsl 5 [167]),iO 169 6 161 162,fO 170 3 169,sO (.store 1 170 168)])
 (.reg [0,1,2,3,4,5,6,17,18,19,24] [mO 171 18,mO 172 25,O 173 (.bsl 1 [172]),O 174 (.app 1 171 173),mO 18 174])))))
 (.reg [0,1,2,3,4,5,6,17,18,19,24] [mO 120 24,bO 121 .add 120 (kI 1),mO 24 121]))))))
 (.seq (.frz 18 0 (.reg [0,3,4,5,6,19,26] [mO 175 0,mO 176 2,mO 177 5,mO 178 3,mO 179 18,(cO 180 91 [175,176,177,178,179]),mO 26 180]))
 (.seq (.reg [0,3,4,5,6,26] [mO 181 0,O 182 (.nilc 181),fO 183 3 182,lO 184 183,mO 185 26,mO 186 19,iO 187 6 184 185,fO 188 5 187,sO (.store 1 188 186)])
 (.seq (.reg [0,6,26,27] [mO 189 0,mO 190 26,mO 191 3,mO 192 4,mO 193 5,(cO 194 126 [189,190,191,192,193]),mO 27 194])
 (.seq (.reg [6] [mO 195 0,O 196 (.nilc 195),fO 197 3 196,lO 198 197,mO 199 26,mO 200 27,iO 201 6 198 199,fO 202 3 201,sO (.store 1 202 200)])
 (.seq (.reg [14] [mO 203 6,mO 14 203])
 .ret))))))))))))
def cy114:List (Nat×An):=[(14,.t (.lst (.nm .Sel))),(28,.t .str),(29,.t .bool),(31,.t (.int .i64)),(32,.t (.lst .str)),(33,.t .str),(34,.t (.lst (.int .i64))),(35,.t (.int .i64)),(15,.t (.int .i64)),(37,.t (.int .i64)),(38,.t .str),(39,.t (.lst (.nm .Sel))),(40,.t (.lst .str)),(41,.t (.lst (.nm .Sel))),(16,.t (.lst (.nm .Sel))),(45,.t (.lst (.nm .Stp))),(46,.t (.int .i64)),(47,.t (.lst (.nm .Sel))),(50,.t (.lst (.nm .Sel))),(51,.t (.lst (.nm .Sel))),(56,.t (.lst (.nm .Typ))),(60,.t (.nm .Part)),(61,.t .str),(62,.t (.int .i64)),(65,.t .str),(66,.t (.nm .Sel)),(67,.t (.lst (.nm .Sel))),(6,.t (.lst (.nm .Sel))),(71,.t (.lst (.nm .Stp))),(72,.t (.int .i64)),(75,.t (.int .i64)),(17,.t (.int .i64)),(76,.t (.int .i64)),(77,.t (.lst (.int .i64))),(18,.t (.lst (.int .i64))),(78,.t (.lst .str)),(19,.t (.lst .str)),(20,.t (.int .i64)),(79,.t (.int .i64)),(80,.t (.lst (.nm .Sel))),(81,.t (.int .i64)),(82,.t .bool),(89,.t (.lst (.nm .Part))),(90,.t (.int .i64)),(92,.t (.nm .Part)),(93,.t .str),(94,.t (.lst (.nm .Sel))),(95,.t (.int .i64)),(98,.t .str),(100,.t (.nm .Field)),(101,.t .bool),(21,.cells ⟨some .Field,[some (.str,.no),some (.str,.no),some (.bool,.no),some (.bool,.no),some (.bool,.no),some (.bool,.no),some (.bool,.no),some ((.lst .str),.no)]⟩),(22,.t .bool),(23,.t (.int .i64)),(102,.t (.int .i64)),(104,.t (.lst .str)),(105,.t (.int .i64)),(106,.t .bool),(109,.t (.lst .str)),(111,.t (.lst .str)),(112,.t (.int .i64)),(114,.t .str),(115,.t (.lst .str)),(107,.t (.int .i64)),(108,.t (.int .i64)),(83,.t (.int .i64)),(84,.t (.int .i64)),(24,.t (.int .i64)),(116,.t (.int .i64)),(117,.t (.lst .str)),(118,.t (.int .i64)),(119,.t .bool),(125,.t (.lst (.nm .Part))),(126,.t (.int .i64)),(128,.t (.nm .Part)),(129,.t .str),(130,.t (.lst .str)),(131,.t (.int .i64)),(133,.t .str),(134,.t .bool),(135,.t (.lst (.nm .Sel))),(136,.t (.lst .str)),(137,.t (.int .i64)),(139,.t .str),(140,.t (.nm .Sel)),(141,.t (.lst (.nm .Sel))),(146,.t (.lst (.nm .Part))),(147,.t .str),(148,.t (.lst .str)),(149,.t (.int .i64)),(151,.t .str),(152,.t (.int .i64)),(153,.t (.lst .str)),(154,.t .str),(155,.t (.int .i64)),(156,.t (.lst (.int .i64))),(157,.t (.int .i64)),(25,.t (.int .i64)),(161,.t (.lst (.nm .Stp))),(162,.t (.int .i64)),(163,.t (.lst .str)),(164,.t (.int .i64)),(166,.t .str),(167,.t (.nm .Sel)),(168,.t (.lst (.nm .Sel))),(171,.t (.lst (.int .i64))),(172,.t (.int .i64)),(173,.t (.lst (.int .i64))),(174,.t (.lst (.int .i64))),(120,.t (.int .i64)),(121,.t (.int .i64)),(176,.t (.int .i64)),(177,.t (.lst .str)),(178,.t .str),(179,.t (.lst (.int .i64))),(180,.t (.int .i64)),(26,.t (.int .i64)),(184,.t (.lst (.nm .Stp))),(185,.t (.int .i64)),(186,.t (.lst .str)),(190,.t (.int .i64)),(191,.t .str),(192,.t (.lst (.nm .Sel))),(193,.t (.lst .str)),(194,.t (.lst (.nm .Sel))),(27,.t (.lst (.nm .Sel))),(198,.t (.lst (.nm .Stp))),(199,.t (.int .i64)),(200,.t (.lst (.nm .Sel))),(203,.t (.lst (.nm .Sel)))]
def c115:CC :=
 .seq (.reg [1,2,4] [O 2 (.boxm 2 0),O 4 (.alloc [(.str []),.e0])])
 (.seq (.seq (.reg [1,2,4,13] [mO 6 1,(cO 7 100 [6]),mO 8 7,gF 9 8 (.load (some 2) 2),gF 10 8 (.mv 1),gF 11 8 (.call 98 [9,10]),gF 12 8 (.bin .geq 11 (kI 0)),O 13 (.pick 8 kT 12)])
 (.cond 13 (.seq (.reg [4] [O 14 (.load (some 2) 2),sO (.store 2 4 14)])
 .ret) .skip))
 (.seq (.reg [1,2,4,5] [mO 15 1,O 16 (.build [(.str []),(.str []),.e0] [(0,1,15)]),O 5 (.alloc [(.str []),(.str []),.e0]),sO (.store 3 5 16)])
 (.seq (.reg [1,2,4,5] [O 17 (.build [(.str []),(.str []),(.bool false),(.bool false),(.bool false),(.bool false),(.bool false),.sl 1 []] [(0,1,(.c (.str [98,111,100,121]))),(1,1,(.c (.str [116,101,120,116]))),(3,1,kT),(6,1,kT)]),O 18 (.bslm 8 [17]),fO 19 2 5,sO (.store 1 19 18)])
 (.seq (.seq (.reg [2,4,5,21] [mO 20 1,O 21 (.bin .neq 20 (.c (.str [110,111,116,101])))])
 (.jn false [] [2,4,5] (.cond 21 (.seq (.reg [2,4,5] [fO 22 1 5,sO (.store 1 22 (.c (.str [105,100])))])
 (.reg [2,4,5] [O 23 (.build [(.str []),(.str []),(.bool false),(.bool false),(.bool false),(.bool false),(.bool false),.sl 1 []] [(0,1,(.c (.str [105,100]))),(1,1,(.c (.str [105,110,116]))),(3,1,kT)]),O 24 (.bslm 8 [23]),fO 25 2 5,sO (.store 1 25 24)])) .skip)))
 (.seq (.reg [2,4] [fO 26 1 2,lO 27 26,O 28 (.load (some 3) 5),O 29 (.bslm 3 [28]),O 30 (.app 3 27 29),fO 31 1 2,sO (.store 1 31 30)])
 (.seq (.reg [4] [O 32 (.load (some 2) 2),sO (.store 2 4 32)])
 .ret))))))
def cy115:List (Nat×An):=[(2,.cells ⟨some .Part,[some (.str,.no),some ((.lst (.nm .Typ)),.at [(2,.no)])]⟩),(4,.cells ⟨some .Part,[some (.str,.no),some ((.lst (.nm .Typ)),.at [(2,.no)])]⟩),(13,.t .bool),(14,.t (.nm .Part)),(5,.cells ⟨some .Typ,[some (.str,.no),some (.str,.no),some ((.lst (.nm .Field)),.no)]⟩),(17,.t (.nm .Field)),(18,.t (.lst (.nm .Field))),(23,.t (.nm .Field)),(24,.t (.lst (.nm .Field))),(28,.t (.nm .Typ)),(29,.o (.nm .Typ) (.at [(2,.no)])),(30,.o (.nm .Typ) (.at [(2,.no)])),(32,.t (.nm .Part))]
def c116:CC :=
 .seq (.reg [1,2] [O 2 (.boxi 3 0),mO 4 (kI 0)])
 (.seq (.seq (.reg [1,2,5] [mO 5 (kI 0)])
 (.block 0 (.lp true 0 [5] [1,2] (.seq (.seq (.reg [1,2,5,10] [mO 6 5,fO 7 2 2,lO 8 7,nO 9 8,bO 10 .lss 6 9])
 (.cond 10 .skip (.exit 0)))
 (.seq (.block 1 (.seq (.reg [1,2,5,20] [fO 13 2 2,lO 14 13,mO 15 5,iO 16 8 14 15,fO 17 0 16,lO 18 17,mO 19 1,bO 20 .eql 18 19])
 (.cond 20 (.seq (.reg [4] [mO 21 5,mO 4 21])
 .ret) .skip)))
 (.reg [1,2,5] [mO 11 5,bO 12 .add 11 (kI 1),mO 5 12]))))))
 (.seq (.reg [4] [O 4 (.mv (.c (.int .i64 (-1))))])
 .ret))
def cy116:List (Nat×An):=[(2,.cells ⟨some .Typ,[some (.str,.no),some (.str,.no),some ((.lst (.nm .Field)),.no)]⟩),(4,.t (.int .i64)),(5,.t (.int .i64))]
def c117:CC :=
 .seq (.reg [0,1,3,6] [O 6 (.boxi 2 2)])
 (.seq (.reg [0,1,3,6,8] [mO 15 0,O 16 (.nilc 15),fO 17 0 16,lO 18 17,mO 19 3,iO 20 2 18 19,O 21 (.load (some 2) 20),O 8 (.alloc [(.int .i64 0),(.str [])]),sO (.store 2 8 21)])
 (.frz 8 0 (.seq (.regd [0,1,3,8,9] (iota 0 10) [0,1,0,0,8,28,63,127,0,511] [0,0,0,0,0,4,0,0,4,4] [fO 22 1 6,lO 23 22,O 24 (.load (some 2) 6),fO 25 1 8,lO 26 25,(cO 27 98 [24,26]),iO 28 3 23 27,O 29 (.load (some 3) 28),O 9 (.alloc [(.str []),(.str []),.e0]),sO (.store 3 9 29)])
 (.frz 9 0 (.seq (.reg [0,1,3,8,9,10] [mO 10 (kI 0)])
 (.block 0 (.lp false 0 [10] [0,1,3,8,9] (.seq (.seq (.reg [0,1,3,8,9,10,34] [mO 30 10,fO 31 2 9,lO 32 31,nO 33 32,bO 34 .lss 30 33])
 (.cond 34 .skip (.exit 0)))
 (.seq (.block 1 (.seq (.reg [0,1,3,8,9,10,11] [fO 37 2 9,lO 38 37,mO 39 10,iO 40 8 38 39,O 41 (.load (some 8) 40),O 11 (.alloc [(.str []),(.str []),(.bool false),(.bool false),(.bool false),(.bool false),(.bool false),.e0]),sO (.store 8 11 41)])
 (.frz 11 0 (.seq (.seq (.reg [0,1,3,8,9,10,11,43] [fO 42 5 11,lO 43 42])
 (.cond 43 (.exit 1) .skip))
 (.seq (.frz 11 0 (.regd [0,1,3,8,9,10,11,12] (iota 0 14) [0,0,2,6,14,0,62,126,255,0,512,1536,4095,8191] [0,0,0,0,1,0,0,1,3,0,0,0,3,0] [O 44 (.bsl0),mO 45 0,O 46 (.nilc 45),fO 47 1 46,lO 48 47,mO 49 3,iO 50 1 48 49,lO 51 50,O 52 (.app 1 44 51),fO 53 0 11,lO 54 53,O 55 (.bsl 1 [54]),O 56 (.apf 1 52 55),mO 12 56]))
 (.seq (.reg [0,1,3,8,9,10,11,12,13] [mO 57 1,fO 58 0 8,lO 59 58,fO 60 1 8,lO 61 60,fO 62 0 11,lO 63 62,(cO 64 112 [57,59,61,63]),mO 13 64])
 (.seq (.seq (.reg [0,1,3,8,9,10,11,12,13,66] [mO 65 13,bO 66 .lss 65 (kI 0)])
 (.cond 66 (.seq (.seq (.reg [0,1,3,8,9,10,12,72] [mO 67 0,O 68 (.nilc 67),fO 69 2 68,lO 70 69,nO 71 70,bO 72 .eql 71 (kI 0)])
 (.jn false [] [0,1,3,8,9,10] (.cond 72 (.reg [0,1,3,8,9,10] [mO 73 0,mO 74 12,O 75 (.nilc 73),fO 76 2 75,sO (.store 1 76 74)]) .skip)))
 (.exit 1)) .skip))
 (.seq (.frz 11 0 (.reg [0,1,3,8,9,10,11,12,14] [mO 77 13,fO 78 1 11,lO 79 78,O 80 (.build [(.int .i64 0),(.str [])] [(0,1,77),(1,1,79)]),O 14 (.alloc [(.int .i64 0),(.str [])]),sO (.store 2 14 80)]))
 (.frz 14 0 (.seq (.regd [0,1,3,8,9,10,12,14,93] (iota 0 13) [0,1,3,7,15,31,63,127,255,31,1023,2047,4095] [0,0,4,0,0,0,0,0,1,0,4,0,0] [fO 81 1 11,lO 82 81,(cO 83 100 [82]),O 84 (.not 83),mO 85 84,gT 86 85 (.mv 0),gT 87 85 (.nilc 86),gT 88 85 (.fa 0 87),gT 89 85 (.load none 88),gT 90 85 (.load (some 2) 14),gT 91 85 (.call 127 [89,90]),gT 92 85 (.bin .lss 91 (kI 0)),O 93 (.pick 85 92 kF)])
 (.jn false [] [0,1,3,8,9,10] (.cond 93 (.seq (.frz 14 0 (.regd [0,1,3,8,9,10,12] (iota 0 11) [0,0,2,6,14,0,32,126,255,511,1023] [0,0,0,0,1,0,0,3,0,0,4] [mO 94 0,mO 95 0,O 96 (.nilc 95),fO 97 0 96,lO 98 97,O 99 (.load (some 2) 14),O 100 (.bsl 2 [99]),O 101 (.app 2 98 100),O 102 (.nilc 94),fO 103 0 102,sO (.store 1 103 101)]))
 (.frz 12 0 (.reg [0,1,3,8,9,10] [mO 104 0,mO 105 0,O 106 (.nilc 105),fO 107 1 106,lO 108 107,mO 109 12,O 110 (.bsl 1 [109]),O 111 (.app 1 108 110),O 112 (.nilc 104),fO 113 1 112,sO (.store 1 113 111)]))) .skip))))))))))))
 (.reg [0,1,3,8,9,10] [mO 35 10,bO 36 .add 35 (kI 1),mO 10 36]))))))))))
def cy117:List (Nat×An):=[(6,.cells ⟨some .Part,[some (.str,.no),some ((.lst (.nm .Typ)),.no)]⟩),(18,.t (.lst (.nm .Stt))),(19,.t (.int .i64)),(21,.t (.nm .Stt)),(8,.cells ⟨some .Stt,[some ((.int .i64),.no),some (.str,.no)]⟩),(23,.t (.lst (.nm .Typ))),(24,.t (.nm .Part)),(26,.t .str),(27,.t (.int .i64)),(29,.t (.nm .Typ)),(9,.cells ⟨some .Typ,[some (.str,.no),some (.str,.no),some ((.lst (.nm .Field)),.no)]⟩),(10,.t (.int .i64)),(30,.t (.int .i64)),(32,.t (.lst (.nm .Field))),(33,.t (.int .i64)),(34,.t .bool),(38,.t (.lst (.nm .Field))),(39,.t (.int .i64)),(41,.t (.nm .Field)),(11,.cells ⟨some .Field,[some (.str,.no),some (.str,.no),some (.bool,.no),some (.bool,.no),some (.bool,.no),some (.bool,.no),some (.bool,.no),some ((.lst .str),.no)]⟩),(43,.t .bool),(44,.t (.lst .str)),(48,.t (.lst (.lst .str))),(49,.t (.int .i64)),(51,.t (.lst .str)),(52,.t (.lst .str)),(54,.t .str),(55,.t (.lst .str)),(56,.t (.lst .str)),(12,.t (.lst .str)),(57,.t (.lst (.nm .Part))),(59,.t (.int .i64)),(61,.t .str),(63,.t .str),(64,.t (.int .i64)),(13,.t (.int .i64)),(65,.t (.int .i64)),(66,.t .bool),(70,.t (.lst .str)),(71,.t (.int .i64)),(72,.t .bool),(74,.t (.lst .str)),(77,.t (.int .i64)),(79,.t .str),(80,.t (.nm .Stt)),(14,.cells ⟨some .Stt,[some ((.int .i64),.no),some (.str,.no)]⟩),(82,.t .str),(83,.t .bool),(84,.t .bool),(85,.t .bool),(89,.t (.lst (.nm .Stt))),(90,.t (.nm .Stt)),(91,.t (.int .i64)),(92,.t .bool),(93,.t .bool),(98,.t (.lst (.nm .Stt))),(99,.t (.nm .Stt)),(100,.t (.lst (.nm .Stt))),(101,.t (.lst (.nm .Stt))),(108,.t (.lst (.lst .str))),(109,.t (.lst .str)),(110,.t (.lst (.lst .str))),(111,.t (.lst (.lst .str))),(35,.t (.int .i64)),(36,.t (.int .i64))]
def c118:CC :=
 .seq (.reg [2,3] [O 2 (.boxi 8 0),O 3 (.boxi 8 1),mO 4 kF])
 (.seq (.reg [4] [fO 5 1 2,lO 6 5,fO 7 1 3,lO 8 7,bO 9 .eql 6 8,mO 10 9,gT 11 10 (.fa 2 2),gT 12 10 (.load none 11),gT 13 10 (.fa 2 3),gT 14 10 (.load none 13),gT 15 10 (.beq .eql 12 14),O 16 (.pick 10 15 kF),mO 17 16,gT 18 17 (.fa 3 2),gT 19 17 (.load none 18),gT 20 17 (.fa 3 3),gT 21 17 (.load none 20),gT 22 17 (.beq .eql 19 21),O 23 (.pick 17 22 kF),mO 4 23])
 .ret)
def cy118:List (Nat×An):=[(2,.cells ⟨some .Field,[some (.str,.no),some (.str,.no),some (.bool,.no),some (.bool,.no),some (.bool,.no),some (.bool,.no),some (.bool,.no),some ((.lst .str),.no)]⟩),(3,.cells ⟨some .Field,[some (.str,.no),some (.str,.no),some (.bool,.no),some (.bool,.no),some (.bool,.no),some (.bool,.no),some (.bool,.no),some ((.lst .str),.no)]⟩),(4,.t .bool)]
def c119:CC :=
 .seq (.reg [0] [mO 2 kF])
 (.seq (.seq (.reg [0,7] [mO 4 0,O 5 (.lens 4),(cO 6 35 [5,(kI 1),(kI 9)]),O 7 (.not 6)])
 (.cond 7 (.seq (.reg [2] [mO 2 kF])
 .ret) .skip))
 (.seq (.seq (.reg [0,3] [mO 3 (kI 0)])
 (.block 0 (.lp true 0 [3] [0] (.seq (.seq (.reg [0,3,11] [mO 8 3,mO 9 0,O 10 (.lens 9),bO 11 .lss 8 10])
 (.cond 11 .skip (.exit 0)))
 (.seq (.block 1 (.seq (.reg [0,3,46] [mO 14 0,mO 15 3,O 16 (.idx 14 15),O 17 (.bin .geq 16 (.c (.int .u8 97))),mO 18 17,gT 19 18 (.mv 0),gT 20 18 (.mv 3),gT 21 18 (.idx 19 20),gT 22 18 (.bin .leq 21 (.c (.int .u8 122))),O 23 (.pick 18 22 kF),mO 24 23,gF 25 24 (.mv 0),gF 26 24 (.mv 3),gF 27 24 (.idx 25 26),gF 28 24 (.bin .eql 27 (.c (.int .u8 95))),O 29 (.pick 24 kT 28),mO 30 29,gF 31 30 (.mv 3),gF 32 30 (.bin .gtr 31 (kI 0)),gF 33 30 (.mv 32),gT 34 33 (.mv 0),gT 35 33 (.mv 3),gT 36 33 (.idx 34 35),gT 37 33 (.bin .geq 36 (.c (.int .u8 48))),gF 38 30 (.pick 33 37 kF),gF 39 30 (.mv 38),gT 40 39 (.mv 0),gT 41 39 (.mv 3),gT 42 39 (.idx 40 41),gT 43 39 (.bin .leq 42 (.c (.int .u8 57))),gF 44 30 (.pick 39 43 kF),O 45 (.pick 30 kT 44),O 46 (.not 45)])
 (.cond 46 (.seq (.reg [2] [mO 2 kF])
 .ret) .skip)))
 (.reg [0,3] [mO 12 3,bO 13 .add 12 (kI 1),mO 3 13]))))))
 (.seq (.reg [2] [mO 2 kT])
 .ret)))
def cy119:List (Nat×An):=[(2,.t .bool),(3,.t (.int .i64)),(46,.t .bool)]
def c120:CC :=
 .seq (.reg [1] [O 1 (.boxi 3 0),mO 2 kF])
 (.seq (.seq (.reg [1,7] [fO 5 1 1,lO 6 5,O 7 (.bin .eql 6 (.c (.str [])))])
 (.cond 7 (.seq (.reg [2] [mO 2 kT])
 .ret) .skip))
 (.seq (.reg [1,3] [O 8 (.load (some 3) 1),fO 9 1 1,lO 10 9,(cO 11 116 [8,10]),mO 3 11])
 (.seq (.seq (.reg [1,3,13] [mO 12 3,bO 13 .lss 12 (kI 0)])
 (.cond 13 (.seq (.reg [2] [mO 2 kF])
 .ret) .skip))
 (.seq (.reg [4] [fO 14 2 1,lO 15 14,mO 16 3,iO 17 8 15 16,O 18 (.load (some 8) 17),O 4 (.alloc [(.str []),(.str []),(.bool false),(.bool false),(.bool false),(.bool false),(.bool false),.e0]),sO (.store 8 4 18)])
 (.frz 4 0 (.seq (.reg [2] [fO 19 1 4,lO 20 19,O 21 (.bin .eql 20 (.c (.str [105,110,116]))),mO 22 21,gT 23 22 (.fa 2 4),gT 24 22 (.load none 23),gT 25 22 (.not 24),O 26 (.pick 22 25 kF),mO 27 26,gT 28 27 (.fa 3 4),gT 29 27 (.load none 28),O 30 (.pick 27 29 kF),mO 31 30,gT 32 31 (.fa 4 4),gT 33 31 (.load none 32),gT 34 31 (.not 33),O 35 (.pick 31 34 kF),mO 36 35,gT 37 36 (.fa 5 4),gT 38 36 (.load none 37),gT 39 36 (.not 38),O 40 (.pick 36 39 kF),mO 41 40,gT 42 41 (.fa 7 4),gT 43 41 (.load none 42),gT 44 41 (.lenl 43),gT 45 41 (.bin .eql 44 (kI 0)),O 46 (.pick 41 45 kF),mO 2 46])
 .ret))))))
def cy120:List (Nat×An):=[(1,.cells ⟨some .Typ,[some (.str,.no),some (.str,.no),some ((.lst (.nm .Field)),.no)]⟩),(2,.t .bool),(8,.t (.nm .Typ)),(18,.t (.nm .Field)),(4,.cells ⟨some .Field,[some (.str,.no),some (.str,.no),some (.bool,.no),some (.bool,.no),some (.bool,.no),some (.bool,.no),some (.bool,.no),some ((.lst .str),.no)]⟩)]
def c121:CC :=
 .seq (.reg [2,3] [O 2 (.boxi 3 0),O 3 (.boxi 8 1),mO 4 kF])
 (.seq (.seq (.reg [2,3,39] [fO 7 7 3,lO 8 7,nO 9 8,bO 10 .gtr 9 (kI 0),mO 11 10,gT 12 11 (.fa 1 3),gT 13 11 (.load none 12),gT 14 11 (.bin .neq 13 (.c (.str [105,110,116]))),gT 15 11 (.mv 14),gF 16 15 (.fa 2 3),gF 17 15 (.load none 16),gT 18 11 (.pick 15 kT 17),gT 19 11 (.mv 18),gF 20 19 (.fa 4 3),gF 21 19 (.load none 20),gT 22 11 (.pick 19 kT 21),gT 23 11 (.mv 22),gF 24 23 (.fa 3 3),gF 25 23 (.load none 24),gT 26 11 (.pick 23 kT 25),gT 27 11 (.mv 26),gF 28 27 (.fa 1 2),gF 29 27 (.load none 28),gF 30 27 (.bin .eql 29 (.c (.str []))),gT 31 11 (.pick 27 kT 30),gT 32 11 (.mv 31),gF 33 32 (.fa 0 3),gF 34 32 (.load none 33),gF 35 32 (.fa 1 2),gF 36 32 (.load none 35),gF 37 32 (.bin .eql 34 36),gT 38 11 (.pick 32 kT 37),O 39 (.pick 11 38 kF)])
 (.cond 39 (.seq (.reg [4] [mO 4 kF])
 .ret) .skip))
 (.seq (.seq (.reg [2,3,5] [mO 5 (kI 0)])
 (.block 0 (.lp true 0 [5] [2,3] (.seq (.seq (.reg [2,3,5,44] [mO 40 5,fO 41 7 3,lO 42 41,nO 43 42,bO 44 .lss 40 43])
 (.cond 44 .skip (.exit 0)))
 (.seq (.block 1 (.seq (.regd [2,3,5,6] (iota 0 8) [0,0,2,0,14,30,63,127] [0,0,0,0,0,0,4,0] [O 47 (.load (some 3) 2),fO 48 7 3,lO 49 48,mO 50 5,iO 51 1 49 50,lO 52 51,(cO 53 116 [47,52]),mO 6 53])
 (.seq (.regd [2,3,5,100] (iota 0 47) [0,1,3,7,15,7,63,127,255,511,1023,2047,4095,8191,16383,8191,65535,131071,262143,524287,1048575,2097151,4194303,8388607,4194303,33554431,67108863,134217727,268435455,536870911,1073741823,2147483647,4294967295,8589934591,17179869183,8589934591,42949672959,137438953471,274877906943,8589934591,558345748479,8589934591,3856880631807,8254927142911,17592186044415,35184372088831,70368744177663] [0,0,0,0,0,0,0,0,0,0,0,0,0,0,0,0,0,0,0,0,0,0,0,0,0,0,0,0,0,0,0,0,0,0,0,0,0,0,0,0,0,0,0,0,0,0,0] [mO 54 6,bO 55 .lss 54 (kI 0),mO 56 55,gF 57 56 (.fa 2 2),gF 58 56 (.load none 57),gF 59 56 (.mv 6),gF 60 56 (.ia 8 58 59),gF 61 56 (.fa 7 60),gF 62 56 (.load none 61),gF 63 56 (.lenl 62),gF 64 56 (.bin .gtr 63 (kI 0)),O 65 (.pick 56 kT 64),mO 66 65,gF 67 66 (.fa 2 2),gF 68 66 (.load none 67),gF 69 66 (.mv 6),gF 70 66 (.ia 8 68 69),gF 71 66 (.fa 1 70),gF 72 66 (.load none 71),gF 73 66 (.bin .neq 72 (.c (.str [105,110,116]))),O 74 (.pick 66 kT 73),mO 75 74,gF 76 75 (.fa 2 2),gF 77 75 (.load none 76),gF 78 75 (.mv 6),gF 79 75 (.ia 8 77 78),gF 80 75 (.fa 2 79),gF 81 75 (.load none 80),O 82 (.pick 75 kT 81),mO 83 82,gF 84 83 (.mv 5),gF 85 83 (.bin .gtr 84 (kI 0)),gF 86 83 (.mv 85),gT 87 86 (.fa 7 3),gT 88 86 (.load none 87),gT 89 86 (.mv 5),gT 90 86 (.bin .sub 89 (kI 1)),gT 91 86 (.ia 1 88 90),gT 92 86 (.load none 91),gT 93 86 (.fa 7 3),gT 94 86 (.load none 93),gT 95 86 (.mv 5),gT 96 86 (.ia 1 94 95),gT 97 86 (.load none 96),gT 98 86 (.bin .geq 92 97),gF 99 83 (.pick 86 98 kF),O 100 (.pick 83 kT 99)])
 (.cond 100 (.seq (.reg [4] [mO 4 kF])
 .ret) .skip))))
 (.reg [2,3,5] [mO 45 5,bO 46 .add 45 (kI 1),mO 5 46]))))))
 (.seq (.reg [4] [mO 4 kT])
 .ret)))
def cy121:List (Nat×An):=[(2,.cells ⟨some .Typ,[some (.str,.no),some (.str,.no),some ((.lst (.nm .Field)),.no)]⟩),(3,.cells ⟨some .Field,[some (.str,.no),some (.str,.no),some (.bool,.no),some (.bool,.no),some (.bool,.no),some (.bool,.no),some (.bool,.no),some ((.lst .str),.no)]⟩),(4,.t .bool),(39,.t .bool),(5,.t (.int .i64)),(47,.t (.nm .Typ)),(100,.t .bool)]
def c122:CC :=
 .seq (.reg [1] [O 1 (.boxi 8 0),O 2 (.mv (.c (.str [])))])
 (.seq (.reg [1,3] [fO 6 1 1,lO 7 6,mO 3 7])
 (.seq (.seq (.reg [1,3,9] [fO 8 2 1,lO 9 8])
 (.jn false [3] [1] (.cond 9 (.reg [1,3] [mO 10 3,O 11 (.bin .add (.c (.str [91])) 10),O 12 (.bin .add 11 (.c (.str [93]))),mO 3 12]) .skip)))
 (.seq (.seq (.reg [1,3,14] [fO 13 3 1,lO 14 13])
 (.jn false [3] [1] (.cond 14 (.reg [1,3] [mO 15 3,O 16 (.bin .add 15 (.c (.str [33]))),mO 3 16]) .skip)))
 (.seq (.reg [1,4] [fO 17 0 1,lO 18 17,O 19 (.bin .add (.c (.str [32,32])) 18),O 20 (.bin .add 19 (.c (.str [32]))),mO 21 3,bO 22 .add 20 21,mO 4 22])
 (.seq (.seq (.reg [1,4,24] [fO 23 4 1,lO 24 23])
 (.jn false [4] [1] (.cond 24 (.reg [1,4] [mO 25 4,O 26 (.bin .add 25 (.c (.str [32,102,97,114]))),mO 4 26]) .skip)))
 (.seq (.seq (.reg [1,4,28] [fO 27 5 1,lO 28 27])
 (.jn false [4] [1] (.cond 28 (.reg [1,4] [mO 29 4,O 30 (.bin .add 29 (.c (.str [32,104,105,100,100,101,110]))),mO 4 30]) .skip)))
 (.seq (.seq (.reg [1,4,32] [fO 31 6 1,lO 32 31])
 (.jn false [4] [1] (.cond 32 (.reg [1,4] [mO 33 4,O 34 (.bin .add 33 (.c (.str [32,115,104,97,114,101,100]))),mO 4 34]) .skip)))
 (.seq (.seq (.reg [1,4,38] [fO 35 7 1,lO 36 35,nO 37 36,bO 38 .gtr 37 (kI 0)])
 (.jn false [4] [1] (.cond 38 (.reg [1,4] [mO 39 4,O 40 (.bin .add 39 (.c (.str [32,110,101,101,100,115]))),mO 4 40]) .skip)))
 (.seq (.seq (.reg [1,4,5] [mO 5 (kI 0)])
 (.block 0 (.lp false 0 [4,5] [1] (.seq (.seq (.reg [1,4,5,45] [mO 41 5,fO 42 7 1,lO 43 42,nO 44 43,bO 45 .lss 41 44])
 (.cond 45 .skip (.exit 0)))
 (.seq (.block 1 (.reg [1,4,5] [mO 48 4,O 49 (.bin .add 48 (.c (.str [32]))),fO 50 7 1,lO 51 50,mO 52 5,iO 53 1 51 52,lO 54 53,bO 55 .add 49 54,mO 4 55]))
 (.reg [1,4,5] [mO 46 5,bO 47 .add 46 (kI 1),mO 5 47]))))))
 (.seq (.reg [2] [mO 56 4,O 57 (.bin .add 56 (.c (.str [10]))),mO 2 57])
 .ret))))))))))
def cy122:List (Nat×An):=[(1,.cells ⟨some .Field,[some (.str,.no),some (.str,.no),some (.bool,.no),some (.bool,.no),some (.bool,.no),some (.bool,.no),some (.bool,.no),some ((.lst .str),.no)]⟩),(2,.t .str),(3,.t .str),(4,.t .str),(5,.t (.int .i64))]
def c123:CC :=
 .seq (.reg [0,3] [O 3 (.boxi 5 1),O 4 (.mv (.c (.sl 5 [])))])
 (.seq (.seq (.reg [0,3,5] [mO 5 (kI 0)])
 (.block 0 (.lp true 0 [5] [0,3] (.seq (.seq (.reg [0,3,5,9] [mO 6 5,mO 7 0,nO 8 7,bO 9 .lss 6 8])
 (.cond 9 .skip (.exit 0)))
 (.seq (.block 1 (.seq (.regd [0,3,5,19] (iota 0 8) [0,0,3,7,15,0,63,127] [0,0,0,1,4,0,4,0] [mO 12 0,mO 13 5,iO 14 5 12 13,O 15 (.load (some 5) 14),(cO 16 101 [15]),O 17 (.load (some 5) 3),(cO 18 101 [17]),bO 19 .eql 16 18])
 (.cond 19 (.seq (.reg [4] [mO 20 0,mO 4 20])
 .ret) .skip)))
 (.reg [0,3,5] [mO 10 5,bO 11 .add 10 (kI 1),mO 5 11]))))))
 (.seq (.regd [4] (iota 0 7) [0,0,3,0,8,31,63] [0,0,3,0,0,3,0] [O 21 (.bsl0),mO 22 0,O 23 (.app 5 21 22),O 24 (.load (some 5) 3),O 25 (.bsl 5 [24]),O 26 (.app 5 23 25),mO 4 26])
 .ret))
def cy123:List (Nat×An):=[(3,.cells ⟨some .Sel,[some (.str,.no),some (.str,.no),some (.bool,.no),some ((.int .i64),.no),some ((.lst (.nm .Sel)),.no)]⟩),(4,.t (.lst (.nm .Sel))),(5,.t (.int .i64)),(6,.t (.int .i64)),(7,.t (.lst (.nm .Sel))),(8,.t (.int .i64)),(9,.t .bool),(12,.t (.lst (.nm .Sel))),(13,.t (.int .i64)),(15,.t (.nm .Sel)),(16,.t .str),(17,.t (.nm .Sel)),(18,.t .str),(19,.t .bool),(20,.t (.lst (.nm .Sel))),(10,.t (.int .i64)),(11,.t (.int .i64)),(21,.t (.lst (.nm .Sel))),(22,.t (.lst (.nm .Sel))),(23,.t (.lst (.nm .Sel))),(24,.t (.nm .Sel)),(25,.t (.lst (.nm .Sel))),(26,.t (.lst (.nm .Sel)))]
def c124:CC :=
 .seq (.reg [0,1] [O 4 (.mv (.c (.sl 1 [])))])
 (.seq (.reg [0,1,5] [mO 5 (kI 0)])
 (.seq (.block 0 (.lp false 0 [5] [0,1] (.seq (.seq (.reg [0,1,5,17] [mO 6 5,mO 7 0,nO 8 7,bO 9 .lss 6 8,mO 10 9,gT 11 10 (.mv 0),gT 12 10 (.mv 5),gT 13 10 (.ia 1 11 12),gT 14 10 (.load none 13),gT 15 10 (.mv 1),gT 16 10 (.bin .lss 14 15),O 17 (.pick 10 16 kF)])
 (.cond 17 .skip (.exit 0)))
 (.block 1 (.reg [0,1,5] [mO 18 5,bO 19 .add 18 (kI 1),mO 5 19])))))
 (.seq (.seq (.reg [0,1,5,31] [mO 20 5,mO 21 0,nO 22 21,bO 23 .lss 20 22,mO 24 23,gT 25 24 (.mv 0),gT 26 24 (.mv 5),gT 27 24 (.ia 1 25 26),gT 28 24 (.load none 27),gT 29 24 (.mv 1),gT 30 24 (.bin .eql 28 29),O 31 (.pick 24 30 kF)])
 (.cond 31 (.seq (.reg [4] [mO 32 0,mO 4 32])
 .ret) .skip))
 (.seq (.regd [4] (iota 0 13) [0,0,0,6,15,0,32,127,0,0,768,2047,4095] [0,0,0,0,3,0,0,3,0,0,0,3,0] [O 33 (.bsl0),mO 34 0,mO 35 5,O 36 (.slc 1 34 none (some 35)),O 37 (.app 1 33 36),mO 38 1,O 39 (.bsl 1 [38]),O 40 (.app 1 37 39),mO 41 0,mO 42 5,O 43 (.slc 1 41 (some 42) none),O 44 (.app 1 40 43),mO 4 44])
 .ret))))
def cy124:List (Nat×An):=[(4,.t (.lst .str)),(5,.t (.int .i64)),(6,.t (.int .i64)),(7,.t (.lst .str)),(8,.t (.int .i64)),(9,.t .bool),(10,.t .bool),(11,.t (.lst .str)),(12,.t (.int .i64)),(14,.t .str),(15,.t .str),(16,.t .bool),(17,.t .bool),(18,.t (.int .i64)),(19,.t (.int .i64)),(20,.t (.int .i64)),(21,.t (.lst .str)),(22,.t (.int .i64)),(23,.t .bool),(24,.t .bool),(25,.t (.lst .str)),(26,.t (.int .i64)),(28,.t .str),(29,.t .str),(30,.t .bool),(31,.t .bool),(32,.t (.lst .str)),(33,.t (.lst .str)),(34,.t (.lst .str)),(35,.t (.int .i64)),(36,.t (.lst .str)),(37,.t (.lst .str)),(38,.t .str),(39,.t (.lst .str)),(40,.t (.lst .str)),(41,.t (.lst .str)),(42,.t (.int .i64)),(43,.t (.lst .str)),(44,.t (.lst .str))]
def c125:CC :=
 .seq (.reg [0,2] [O 2 (.alloc [(.str []),(.str []),(.bool false),(.int .i64 0),.e0])])
 (.seq (.reg [2] [mO 3 0,O 4 (.bin .add (.c (.str [95])) 3),mO 5 0,O 6 (.build [(.str []),(.str []),(.bool false),(.int .i64 0),.sl 5 []] [(0,1,4),(1,1,5)]),sO (.store 5 2 6)])
 .ret)
def cy125:List (Nat×An):=[(2,.cells ⟨some .Sel,[some (.str,.no),some (.str,.no),some (.bool,.no),some ((.int .i64),.no),some ((.lst (.nm .Sel)),.no)]⟩),(3,.t .str),(4,.t .str),(5,.t .str),(6,.t (.nm .Sel))]
def c126:CC :=
 .seq (.reg [0,1,2,3,4] [O 10 (.mv (.c (.sl 5 [])))])
 (.seq (.reg [0,1,2,3,4,11] [O 16 (.bsl0),mO 11 16])
 (.seq (.seq (.reg [0,1,2,3,4,11,12] [mO 12 (kI 0)])
 (.block 0 (.lp false 0 [11,12] [0,1,2,3,4] (.seq (.seq (.reg [0,1,2,3,4,11,12,20] [mO 17 12,mO 18 3,nO 19 18,bO 20 .lss 17 19])
 (.cond 20 .skip (.exit 0)))
 (.seq (.block 1 (.seq (.reg [0,1,2,3,4,11,12,13] [mO 23 3,mO 24 12,iO 25 5 23 24,O 26 (.load (some 5) 25),O 13 (.alloc [(.str []),(.str []),(.bool false),(.int .i64 0),.e0]),sO (.store 5 13 26)])
 (.seq (.regd [0,1,2,3,4,11,12,13,14] (iota 0 14) [0,1,3,7,0,0,32,127,255,511,511,0,3071,8191] [0,0,0,1,0,0,1,4,0,0,0,4,4,0] [mO 28 0,O 29 (.nilc 28),fO 30 1 29,O 31 (.load (some 2) 30),mO 32 2,fO 33 1 13,lO 34 33,(cO 35 110 [31,32,34]),mO 27 35,O 36 (.ext 27 0),O 37 (.ext 27 1),O 14 (.alloc [(.str []),(.str []),(.bool false),(.bool false),(.bool false),(.bool false),(.bool false),.e0]),sO (.store 8 14 36),mO 15 37])
 (.frz 14 0 (.seq (.frz 14 0 (.regd [0,1,2,3,4,11,12,13] (iota 0 16) [0,0,0,4,0,16,0,0,192,0,960,1984,4032,8191,16383,32767] [0,0,0,0,0,1,0,0,3,1,0,0,3,4,0,4] [mO 38 0,mO 39 1,fO 40 1 14,lO 41 40,fO 42 4 13,lO 43 42,O 44 (.bsl0),mO 45 4,O 46 (.app 1 44 45),O 47 (.load (some 5) 13),(cO 48 101 [47]),O 49 (.bsl 1 [48]),O 50 (.apf 1 46 49),(cO 51 92 [38,39,41,43,50]),fO 52 4 13,sO (.store 1 52 51)]))
 (.frz 13 0 (.reg [0,1,2,3,4,11,12] [mO 53 11,O 54 (.load (some 5) 13),O 55 (.bsl 5 [54]),O 56 (.app 5 53 55),mO 11 56])))))))
 (.reg [0,1,2,3,4,11,12] [mO 21 12,bO 22 .add 21 (kI 1),mO 12 22]))))))
 (.seq (.reg [10] [mO 57 11,mO 10 57])
 .ret)))
def cy126:List (Nat×An):=[(10,.t (.lst (.nm .Sel))),(16,.t (.lst (.nm .Sel))),(11,.t (.lst (.nm .Sel))),(12,.t (.int .i64)),(17,.t (.int .i64)),(18,.t (.lst (.nm .Sel))),(19,.t (.int .i64)),(20,.t .bool),(23,.t (.lst (.nm .Sel))),(24,.t (.int .i64)),(26,.t (.nm .Sel)),(13,.cells ⟨some .Sel,[some (.str,.no),some (.str,.no),some (.bool,.no),some ((.int .i64),.no),some ((.lst (.nm .Sel)),.no)]⟩),(31,.t (.nm .Part)),(32,.t .str),(34,.t .str),(36,.t (.nm .Field)),(37,.t .bool),(14,.cells ⟨some .Field,[some (.str,.no),some (.str,.no),some (.bool,.no),some (.bool,.no),some (.bool,.no),some (.bool,.no),some (.bool,.no),some ((.lst .str),.no)]⟩),(15,.t .bool),(39,.t (.int .i64)),(41,.t .str),(43,.t (.lst (.nm .Sel))),(44,.t (.lst .str)),(45,.t (.lst .str)),(46,.t (.lst .str)),(47,.t (.nm .Sel)),(48,.t .str),(49,.t (.lst .str)),(50,.t (.lst .str)),(51,.t (.lst (.nm .Sel))),(53,.t (.lst (.nm .Sel))),(54,.t (.nm .Sel)),(55,.t (.lst (.nm .Sel))),(56,.t (.lst (.nm .Sel))),(21,.t (.int .i64)),(22,.t (.int .i64)),(57,.t (.lst (.nm .Sel)))]
def c127:CC :=
 .seq (.reg [0,3] [O 3 (.boxi 2 1),mO 4 (kI 0)])
 (.seq (.seq (.reg [0,3,5] [mO 5 (kI 0)])
 (.block 0 (.lp true 0 [5] [0,3] (.seq (.seq (.reg [0,3,5,9] [mO 6 5,mO 7 0,nO 8 7,bO 9 .lss 6 8])
 (.cond 9 .skip (.exit 0)))
 (.seq (.block 1 (.seq (.regd [0,3,5,17] (iota 0 6) [0,0,3,7,0,31] [0,0,0,1,0,0] [mO 12 0,mO 13 5,iO 14 2 12 13,O 15 (.load (some 2) 14),O 16 (.load (some 2) 3),O 17 (.eqs .eql [2,1] 15 16)])
 (.cond 17 (.seq (.reg [4] [mO 18 5,mO 4 18])
 .ret) .skip)))
 (.reg [0,3,5] [mO 10 5,bO 11 .add 10 (kI 1),mO 5 11]))))))
 (.seq (.reg [4] [O 4 (.mv (.c (.int .i64 (-1))))])
 .ret))
def cy127:List (Nat×An):=[(3,.cells ⟨some .Stt,[some ((.int .i64),.no),some (.str,.no)]⟩),(4,.t (.int .i64)),(5,.t (.int .i64)),(15,.t (.nm .Stt)),(16,.t (.nm .Stt))]
end Go.Fw
