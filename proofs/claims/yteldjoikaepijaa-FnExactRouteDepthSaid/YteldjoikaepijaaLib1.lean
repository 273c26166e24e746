/- The sizes, the copies and the comparisons of slices: one proof for each shape of code. -/
import Derived.Test.YteldjoikaepijaaFw20
namespace Go.Fw
open Go

def szr (s n : Int) : Int := if s ≤ n then n - s else -1
theorem szr_pos {s n : Int} (h : s ≤ n) : szr s n = n - s := if_pos h
theorem szr_neg {s n : Int} (h : n < s) : szr s n = -1 := if_neg (by omega)

theorem szr_cases (s n : Int) : (s ≤ n ∧ szr s n = n - s) ∨ (n < s ∧ szr s n = -1) := by
  rcases Int.lt_or_le n s with h | h
  · exact .inr ⟨h, szr_neg h⟩
  · exact .inl ⟨h, szr_pos h⟩
theorem BIG_eq : (BIG : Int) = 9223372036854775807 := rfl
theorem BIG_eqN : BIG = 9223372036854775807 := rfl

structure EncOk {α : Type} (es : Nat) (enc : α → List AV) : Prop where
  len : ∀ x, (enc x).length = es
  pure : ∀ x, AV.pureL (enc x) = true
  cell : ∀ x, (enc x).all AV.isCell = true
  inj : ∀ a b, enc a = enc b → a = b

theorem encOk_S : EncOk 1 encS := ⟨fun _ => rfl, fun _ => by simp [encS], fun _ => by simp [encS, AV.isCell], fun _ _ => encS_inj.1⟩
theorem encOk_I : EncOk 1 encI := ⟨fun _ => rfl, fun _ => by simp [encI], fun _ => by simp [encI, AV.isCell], fun _ _ => encI_inj.1⟩

theorem encOk_Field : EncOk 8 encField := ⟨len_encField, pure_encField, cell_encField, fun _ _ => encField_inj.1⟩
theorem encOk_Typ : EncOk 3 encTyp := ⟨len_encTyp, pure_encTyp, cell_encTyp, fun _ _ => encTyp_inj.1⟩
theorem encOk_Part : EncOk 2 encPart := ⟨len_encPart, pure_encPart, cell_encPart, fun _ _ => encPart_inj.1⟩
theorem encOk_Val : EncOk 5 encVal := ⟨len_encVal, pure_encVal, cell_encVal, fun _ _ => encVal_inj.1⟩
theorem encOk_Cel : EncOk 6 encCel := ⟨len_encCel, pure_encCel, cell_encCel, fun _ _ => encCel_inj.1⟩
theorem encOk_Row : EncOk 3 encRow := ⟨len_encRow, pure_encRow, cell_encRow, fun _ _ => encRow_inj.1⟩
theorem encOk_Sel : EncOk 5 encSel := ⟨len_encSel, pure_encSel, cell_encSel, fun _ _ => encSel_inj.1⟩
theorem encOk_Chg : EncOk 8 encChg := ⟨len_encChg, pure_encChg, cell_encChg, fun _ _ => encChg_inj.1⟩
theorem encOk_Ety : EncOk 3 encEty := ⟨len_encEty, pure_encEty, cell_encEty, fun _ _ => encEty_inj.1⟩
theorem encOk_Stp : EncOk 6 encStp := ⟨len_encStp, pure_encStp, cell_encStp, fun _ _ => encStp_inj.1⟩
theorem encOk_Wrg : EncOk 2 encWrg := ⟨len_encWrg, pure_encWrg, cell_encWrg, fun _ _ => encWrg_inj.1⟩
theorem encOk_Ans : EncOk 6 encAns := ⟨len_encAns, pure_encAns, cell_encAns, fun _ _ => encAns_inj.1⟩
theorem encOk_Own : EncOk 3 encOwn := ⟨len_encOwn, pure_encOwn, cell_encOwn, fun _ _ => encOwn_inj.1⟩
theorem encOk_Chart : EncOk 3 encChart := ⟨len_encChart, pure_encChart, cell_encChart, fun _ _ => encChart_inj.1⟩

def sumN {α : Type} (sz : α → Nat) : List α → Nat
  | [] => 0
  | x :: l => sz x + sumN sz l

noncomputable def eqb {α : Type} (a b : α) : Bool := @decide (a = b) (Classical.propDecidable _)
@[simp] theorem eqb_true {α : Type} {a b : α} : eqb a b = true ↔ a = b := by simp [eqb]
@[simp] theorem eqb_false {α : Type} {a b : α} : eqb a b = false ↔ a ≠ b := by simp [eqb]
theorem eqb_eq {α : Type} {a b : α} (h : a = b) : eqb a b = true := eqb_true.2 h
theorem eqb_ne {α : Type} {a b : α} (h : a ≠ b) : eqb a b = false := eqb_false.2 h

def cSzS (es g : Nat) : CC :=
 .seq (.reg [0, 1] [O 4 (.mv (.c (.int .i64 0)))])
 (.seq (.reg [0, 1] [O 6 (.mv (.t 1)), O 7 (.mv (.t 0)), O 8 (.lenl (.t 7)), O 9 (.bin .sub (.t 6) (.t 8)), O 1 (.mv (.t 9))])
 (.seq (.seq (.reg [0, 1, 11] [O 10 (.mv (.t 1)), O 11 (.bin .lss (.t 10) (.c (.int .i64 0)))])
 (.cond (.t 11) (.seq (.reg [4] [O 4 (.mv (.c (.int .i64 (-1))))])
 (.ret)) (.skip)))
 (.seq (.seq (.reg [0, 1, 5] [O 5 (.mv (.c (.int .i64 0)))])
 (.block 0 (.loop (.seq (.seq (.reg [0, 1, 5, 15] [O 12 (.mv (.t 5)), O 13 (.mv (.t 0)), O 14 (.lenl (.t 13)), O 15 (.bin .lss (.t 12) (.t 14))])
 (.cond (.t 15) (.skip) (.exit 0)))
 (.seq (.block 1 (.seq (.reg [0, 1, 5] [O 18 (.mv (.t 0)), O 19 (.mv (.t 5)), O 20 (.ia es (.t 18) (.t 19)), O 21 (.load (some es) (.t 20)), O 22 (.mv (.t 1)), O 23 (.call g [(.t 21), (.t 22)]), O 1 (.mv (.t 23))])
 (.seq (.reg [0, 1, 5, 25] [O 24 (.mv (.t 1)), O 25 (.bin .lss (.t 24) (.c (.int .i64 0)))])
 (.cond (.t 25) (.seq (.reg [4] [O 4 (.mv (.c (.int .i64 (-1))))])
 (.ret)) (.skip)))))
 (.reg [0, 1, 5] [O 16 (.mv (.t 5)), O 17 (.bin .add (.t 16) (.c (.int .i64 1))), O 5 (.mv (.t 17))]))))))
 (.seq (.reg [4] [O 26 (.mv (.t 1)), O 4 (.mv (.t 26))])
 (.ret)))))

theorem szS_PS {P : Program} {α : Type} {es f g : Nat} {enc : α → List AV} {sz : α → Nat} (he : EncOk es enc) (hf : FnOk P f (cSzS es g) 2 [.t 4]) (xs : List α)
    (hx : ∀ x ∈ xs, ∀ n : Int, 0 ≤ n → n ≤ BIG → PS P g [.agg (enc x), .int .i64 n] (.int .i64 (szr (sz x) n))) (n : Int) (h0 : 0 ≤ n) (h1 : n ≤ BIG) :
    PS P f [.sl es (xs.map enc), .int .i64 n] (.int .i64 (szr (xs.length + sumN sz xs) n)) := by
  let e : En P := mkE g (fun p : α × Int => [.agg (enc p.1), .int .i64 p.2]) (fun p => p.1 ∈ xs ∧ 0 ≤ p.2 ∧ p.2 ≤ BIG) (fun p => .int .i64 (szr (sz p.1) p.2)) (fun p h => hx _ h.1 _ h.2.1 h.2.2)
  have esem : ∀ x m, e.sem [.agg (enc x), .int .i64 m] = some ((x ∈ xs ∧ 0 ≤ m ∧ m ≤ BIG), .int .i64 (szr (sz x) m)) := fun x m =>
    mkE_sem (a := (x, m)) (fun a b h => by
      simp only [List.cons.injEq, AV.agg.injEq, AV.int.injEq] at h
      exact Prod.ext (he.inj _ _ h.1) h.2.1.2)
  have ef : e.f = g := rfl
  clear_value e
  refine PS.mk' (Φ := [e]) 60 hf rfl (by simp) (by simp) fun fn hres => ?_
  simp [cSzS]
  intro hb
  refine ⟨by simp only [BIG] at *; omega, fun h => ?_, fun h => ?_⟩
  · simp only [szr, tupOf]; rw [if_neg (by omega)]
  refine AW.loop (S := fun p : Nat × Int => ⟨[(0, .sl es (xs.map enc)), (1, .int .i64 p.2), (5, .int .i64 p.1)], []⟩)
    (ok := fun p => p.1 ≤ xs.length ∧ 0 ≤ p.2 ∧ p.2 ≤ BIG ∧ szr (sumN sz (xs.drop p.1)) p.2 = szr (xs.length + sumN sz xs) n) (μ := fun p => xs.length - p.1)
    (0, n - xs.length) ⟨by simp, by simpa using h, by simp only [BIG] at *; omega, ?_⟩ (fun _ h => h) ?_
  · simp only [szr, List.drop_zero]; split <;> split <;> omega
  rintro ⟨i, m⟩ ⟨hi, hm, hm', heq⟩ next
  simp only at hi hm hm' heq
  rcases lt_or_end xs i hi with ⟨x, hx⟩ | rfl
  · have hlt := at_lt hx
    have hmem := List.mem_of_getElem? hx
    rw [drop_at hx] at heq
    have ht : (enc x).take es = enc x := List.take_of_length_le (by rw [he.len]; exact Nat.le_refl _)
    simp only [sumN] at heq
    refine vc_go [e] [.t 4] 60 hf.mix hres ?_
    simp [hlt, nth_of hx, he.len, ef, ht, esem, hmem, hm, hm']
    intro hb
    rcases Int.lt_or_le m (sz x) with hc | hc
    · rw [szr_neg hc]
      refine ⟨fun _ => ?_, fun h => by omega⟩
      rw [← heq, szr_neg (by omega)]
    · rw [szr_pos hc]
      refine ⟨fun h => by omega, fun _ => ⟨by simp only [BIG] at *; omega, ?_⟩⟩
      refine next (i + 1, m - sz x) ⟨by simp; omega, by simp; omega, by simp; omega, ?_⟩ (by simp; omega)
      rw [← heq]
      simp only []
      rcases Int.lt_or_le (m - sz x) (sumN sz (xs.drop (i + 1))) with hc2 | hc2
      · rw [szr_neg hc2, szr_neg (by omega)]
      · rw [szr_pos hc2, szr_pos (by omega)]; omega
  · refine vc_go [e] [.t 4] 60 hf.mix hres ?_
    simp only [List.drop_length, sumN] at heq
    simp
    rw [← heq, szr_pos (by simpa using hm)]; simp

def cSzI : CC :=
 .seq (.reg [0, 1] [O 4 (.mv (.c (.int .i64 0)))])
 (.seq (.reg [1] [O 5 (.mv (.t 1)), O 6 (.mv (.t 0)), O 7 (.lenl (.t 6)), O 8 (.bin .sub (.t 5) (.t 7)), O 1 (.mv (.t 8))])
 (.seq (.seq (.reg [1, 10] [O 9 (.mv (.t 1)), O 10 (.bin .lss (.t 9) (.c (.int .i64 0)))])
 (.cond (.t 10) (.seq (.reg [4] [O 4 (.mv (.c (.int .i64 (-1))))])
 (.ret)) (.skip)))
 (.seq (.reg [4] [O 11 (.mv (.t 1)), O 4 (.mv (.t 11))])
 (.ret))))

theorem szI_PS {P : Program} {f : Nat} (hf : FnOk P f cSzI 2 [.t 4]) (xs : List Int) (n : Int) (h0 : 0 ≤ n) (h1 : n ≤ BIG) :
    PS P f [.sl 1 (xs.map encI), .int .i64 n] (.int .i64 (szr xs.length n)) := by
  refine PS.mk' (Φ := []) 60 hf rfl (by simp) (by simp) fun fn hres => ?_
  simp [cSzI, tupOf]
  intro hb
  refine ⟨by simp only [BIG] at *; omega, fun h => ?_, fun h => ?_⟩
  · rw [szr_neg (by omega)]
  · rw [szr_pos (by omega)]

def cSzStr : CC :=
 .seq (.reg [0, 1] [O 4 (.mv (.c (.int .i64 0)))])
 (.seq (.reg [0, 1] [O 6 (.mv (.t 1)), O 7 (.mv (.t 0)), O 8 (.lenl (.t 7)), O 9 (.bin .sub (.t 6) (.t 8)), O 1 (.mv (.t 9))])
 (.seq (.seq (.reg [0, 1, 11] [O 10 (.mv (.t 1)), O 11 (.bin .lss (.t 10) (.c (.int .i64 0)))])
 (.cond (.t 11) (.seq (.reg [4] [O 4 (.mv (.c (.int .i64 (-1))))])
 (.ret)) (.skip)))
 (.seq (.seq (.reg [0, 1, 5] [O 5 (.mv (.c (.int .i64 0)))])
 (.block 0 (.loop (.seq (.seq (.reg [0, 1, 5, 15] [O 12 (.mv (.t 5)), O 13 (.mv (.t 0)), O 14 (.lenl (.t 13)), O 15 (.bin .lss (.t 12) (.t 14))])
 (.cond (.t 15) (.skip) (.exit 0)))
 (.seq (.block 1 (.seq (.reg [0, 1, 5] [O 18 (.mv (.t 1)), O 19 (.mv (.t 0)), O 20 (.mv (.t 5)), O 21 (.ia 1 (.t 19) (.t 20)), O 22 (.load none (.t 21)), O 23 (.lens (.t 22)), O 24 (.bin .sub (.t 18) (.t 23)), O 1 (.mv (.t 24))])
 (.seq (.reg [0, 1, 5, 26] [O 25 (.mv (.t 1)), O 26 (.bin .lss (.t 25) (.c (.int .i64 0)))])
 (.cond (.t 26) (.seq (.reg [4] [O 4 (.mv (.c (.int .i64 (-1))))])
 (.ret)) (.skip)))))
 (.reg [0, 1, 5] [O 16 (.mv (.t 5)), O 17 (.bin .add (.t 16) (.c (.int .i64 1))), O 5 (.mv (.t 17))]))))))
 (.seq (.reg [4] [O 27 (.mv (.t 1)), O 4 (.mv (.t 27))])
 (.ret)))))

theorem szStr_PS {P : Program} {f : Nat} (hf : FnOk P f cSzStr 2 [.t 4]) (xs : List Str) (n : Int) (h0 : 0 ≤ n) (h1 : n ≤ BIG) :
    PS P f [.sl 1 (xs.map encS), .int .i64 n] (.int .i64 (szr (xs.length + sumN List.length xs) n)) := by
  refine PS.mk' (Φ := []) 60 hf rfl (by simp) (by simp) fun fn hres => ?_
  simp [cSzStr]
  intro hb
  refine ⟨by simp only [BIG] at *; omega, fun h => ?_, fun h => ?_⟩
  · simp only [szr, tupOf]; rw [if_neg (by omega)]
  refine AW.loop (S := fun p : Nat × Int => ⟨[(0, .sl 1 (xs.map encS)), (1, .int .i64 p.2), (5, .int .i64 p.1)], []⟩)
    (ok := fun p => p.1 ≤ xs.length ∧ 0 ≤ p.2 ∧ p.2 ≤ BIG ∧ szr (sumN List.length (xs.drop p.1)) p.2 = szr (xs.length + sumN List.length xs) n) (μ := fun p => xs.length - p.1)
    (0, n - xs.length) ⟨by simp, by simpa using h, by simp only [BIG] at *; omega, ?_⟩ (fun _ h => h) ?_
  · simp only [szr, List.drop_zero]; split <;> split <;> omega
  rintro ⟨i, m⟩ ⟨hi, hm, hm', heq⟩ next
  simp only at hi hm hm' heq
  rcases lt_or_end xs i hi with ⟨x, hx⟩ | rfl
  · have hlt := at_lt hx
    rw [drop_at hx] at heq
    simp only [sumN] at heq
    refine vc_go [] [.t 4] 60 hf.mix hres ?_
    simp [hlt, nth_of hx]
    intro hb hbx
    refine ⟨by simp only [BIG] at *; omega, fun hc => ?_, fun hc => ⟨by simp only [BIG] at *; omega, ?_⟩⟩
    · rw [← heq, szr_neg (by omega)]
    · refine next (i + 1, m - x.length) ⟨by simp; omega, by simp; omega, by simp; omega, ?_⟩ (by simp; omega)
      rw [← heq]
      simp only []
      rcases Int.lt_or_le (m - x.length) (sumN List.length (xs.drop (i + 1))) with hc2 | hc2
      · rw [szr_neg hc2, szr_neg (by omega)]
      · rw [szr_pos hc2, szr_pos (by omega)]; omega
  · refine vc_go [] [.t 4] 60 hf.mix hres ?_
    simp only [List.drop_length, sumN] at heq
    simp
    rw [← heq, szr_pos (by simpa using hm)]; simp [tupOf]

/-- What lies in a copy that is made up to `i`. -/
def upTo {α : Type} (enc : α → List AV) (zs : List AV) (xs : List α) (i : Nat) : List (List AV) := (xs.take i).map enc ++ List.replicate (xs.length - i) zs
theorem upTo_len {α : Type} {enc : α → List AV} {zs : List AV} {xs : List α} {i : Nat} (h : i ≤ xs.length) : (upTo enc zs xs i).length = xs.length := by simp [upTo]; omega
theorem upTo_zero {α : Type} {enc : α → List AV} {zs : List AV} {xs : List α} : upTo enc zs xs 0 = List.replicate xs.length zs := by simp [upTo]
theorem upTo_all {α : Type} {enc : α → List AV} {zs : List AV} {xs : List α} : upTo enc zs xs xs.length = xs.map enc := by simp [upTo]
theorem upTo_get {α : Type} {enc : α → List AV} {zs : List AV} {xs : List α} {i : Nat} (h : i < xs.length) : (upTo enc zs xs i)[i]? = some zs := by
  simp only [upTo]
  rw [List.getElem?_append_right (by simp; omega), List.getElem?_replicate, if_pos (by simp; omega)]
theorem upTo_set {α : Type} {enc : α → List AV} {zs : List AV} {xs : List α} {i : Nat} {x : α} (h : xs[i]? = some x) : (upTo enc zs xs i).set i (enc x) = upTo enc zs xs (i + 1) := by
  have hlt := at_lt h
  simp only [upTo]
  rw [List.set_append_right _ _ (by simp; omega)]
  have e1 : i - (List.map enc (List.take i xs)).length = 0 := by simp; omega
  have e2 : xs.length - i = (xs.length - (i + 1)) + 1 := by omega
  rw [e1, e2, List.replicate_succ, List.set_cons_zero, List.take_add_one, h]
  simp

def cToS (es k : Nat) (zs : List AV) (g : Nat) : CC :=
 .seq (.reg [0] [O 2 (.mv (.c .e0))])
 (.seq (.reg [0, 3] [O 5 (.mv (.t 0)), O 6 (.lenl (.t 5)), O 7 (.mks es zs (.t 6)), O 3 (.mv (.t 7))])
 (.seq (.seq (.reg [0, 3, 4] [O 4 (.mv (.c (.int .i64 0)))])
 (.block 0 (.loop (.seq (.seq (.reg [0, 3, 4, 11] [O 8 (.mv (.t 4)), O 9 (.mv (.t 0)), O 10 (.lenl (.t 9)), O 11 (.bin .lss (.t 8) (.t 10))])
 (.cond (.t 11) (.skip) (.exit 0)))
 (.seq (.block 1 (.reg [0, 3, 4] [O 14 (.mv (.t 3)), O 15 (.mv (.t 4)), O 16 (.mv (.t 0)), O 17 (.mv (.t 4)), O 18 (.ia es (.t 16) (.t 17)), O 19 (.load (some es) (.t 18)), O 20 (.call g [(.t 19)]), O 21 (.ia es (.t 14) (.t 15)), .mk none none (.store es (.t 21) (.t 20))]))
 (.reg [0, 3, 4] [O 12 (.mv (.t 4)), O 13 (.bin .add (.t 12) (.c (.int .i64 1))), O 4 (.mv (.t 13))]))))))
 (.seq (.frz 3 es (.reg [2] [O k (.mv (.t 3)), O 2 (.mv (.t k))]))
 (.ret))))

theorem toS_PS {P : Program} {α : Type} {es f g : Nat} {zs : List AV} {enc : α → List AV} (he : EncOk es enc) (hz : zs.length = es) (hf : FnOk P f (cToS es 22 zs g) 1 [.t 2]) (xs : List α)
    (hx : ∀ x ∈ xs, PS P g [.agg (enc x)] (.agg (enc x))) (hlim : xs.length ≤ LIM) : PS P f [.sl es (xs.map enc)] (.sl es (xs.map enc)) := by
  let e : En P := mkE g (fun x : α => [.agg (enc x)]) (fun x => x ∈ xs) (fun x => .agg (enc x)) (fun x h => hx _ h)
  have esem : ∀ x, e.sem [.agg (enc x)] = some (x ∈ xs, .agg (enc x)) := fun x =>
    mkE_sem (a := x) (fun a b h => by simp only [List.cons.injEq, AV.agg.injEq] at h; exact he.inj _ _ h.1)
  have ef : e.f = g := rfl
  clear_value e
  refine PS.mk' (Φ := [e]) 60 hf rfl (by simp) (by simp) fun fn hres => ?_
  simp [cToS]
  intro hb
  refine ⟨by simp only [LIM] at *; omega, ?_⟩
  refine AW.loop (S := fun i : Nat => ⟨[(0, .sl es (xs.map enc)), (3, .ms 0 es 0 xs.length), (4, .int .i64 i)], [.arr es (upTo enc zs xs i)]⟩)
    (ok := fun i => i ≤ xs.length) (μ := fun i => xs.length - i) 0 (by simp) (fun _ h => by simpa [upTo_zero] using h) ?_
  intro i hi next
  rcases lt_or_end xs i hi with ⟨x, hx⟩ | rfl
  · have hlt := at_lt hx
    have hmem := List.mem_of_getElem? hx
    have ht : (enc x).take es = enc x := List.take_of_length_le (by rw [he.len]; exact Nat.le_refl _)
    refine vc_go [e] [.t 2] 60 hf.mix hres ?_
    have hdz : zs.drop es = [] := by rw [← hz]; simp
    have hc := he.cell x
    simp [hlt, nth_of hx, he.len, ef, ht, esem, hmem, upTo_get hlt, hz, hdz, upTo_set hx] at hc ⊢
    intro _
    refine ⟨hc, by simp only [BIG] at *; omega, ?_⟩
    exact next (i + 1) hlt (by omega)
  · refine vc_go [e] [.t 2] 60 hf.mix hres ?_
    simp [upTo_all, tupOf]
    exact fun _ => ⟨⟨fun x _ => he.pure x, hb⟩, List.take_of_length_le (by simp)⟩

def cToP (zs : List AV) : CC :=
 .seq (.reg [0] [O 2 (.mv (.c .e0))])
 (.seq (.reg [0, 3] [O 5 (.mv (.t 0)), O 6 (.lenl (.t 5)), O 7 (.mks 1 zs (.t 6)), O 3 (.mv (.t 7))])
 (.seq (.seq (.reg [0, 3, 4] [O 4 (.mv (.c (.int .i64 0)))])
 (.block 0 (.loop (.seq (.seq (.reg [0, 3, 4, 11] [O 8 (.mv (.t 4)), O 9 (.mv (.t 0)), O 10 (.lenl (.t 9)), O 11 (.bin .lss (.t 8) (.t 10))])
 (.cond (.t 11) (.skip) (.exit 0)))
 (.seq (.block 1 (.reg [0, 3, 4] [O 14 (.mv (.t 3)), O 15 (.mv (.t 4)), O 16 (.mv (.t 0)), O 17 (.mv (.t 4)), O 18 (.ia 1 (.t 16) (.t 17)), O 19 (.load none (.t 18)), O 20 (.ia 1 (.t 14) (.t 15)), .mk none none (.store 1 (.t 20) (.t 19))]))
 (.reg [0, 3, 4] [O 12 (.mv (.t 4)), O 13 (.bin .add (.t 12) (.c (.int .i64 1))), O 4 (.mv (.t 13))]))))))
 (.seq (.frz 3 1 (.reg [2] [O 21 (.mv (.t 3)), O 2 (.mv (.t 21))]))
 (.ret))))

theorem toStr_PS {P : Program} {f : Nat} (hf : FnOk P f (cToP [.str []]) 1 [.t 2]) (xs : List Str) (hlim : xs.length ≤ LIM) : PS P f [.sl 1 (xs.map encS)] (.sl 1 (xs.map encS)) := by
  refine PS.mk' (Φ := []) 60 hf rfl (by simp) (by simp) fun fn hres => ?_
  simp [cToP]
  intro hb
  refine ⟨by simp only [LIM] at *; omega, ?_⟩
  refine AW.loop (S := fun i : Nat => ⟨[(0, .sl 1 (xs.map encS)), (3, .ms 0 1 0 xs.length), (4, .int .i64 i)], [.arr 1 (upTo encS [.str []] xs i)]⟩)
    (ok := fun i => i ≤ xs.length) (μ := fun i => xs.length - i) 0 (by simp) (fun _ h => by simpa [upTo_zero] using h) ?_
  intro i hi next
  rcases lt_or_end xs i hi with ⟨x, hx⟩ | rfl
  · have hlt := at_lt hx
    refine vc_go [] [.t 2] 60 hf.mix hres ?_
    have hset : (upTo encS [.str []] xs i).set i [.str x] = upTo encS [.str []] xs (i + 1) := upTo_set hx
    simp [hlt, nth_of hx, upTo_get hlt, AV.isCell, hset]
    intros
    refine ⟨by simp only [BIG] at *; omega, ?_⟩
    exact next (i + 1) hlt (by omega)
  · refine vc_go [] [.t 2] 60 hf.mix hres ?_
    simp [upTo_all, tupOf]
    exact fun _ => ⟨⟨fun x _ => by simp [encS], hb⟩, List.take_of_length_le (by simp)⟩

theorem toI_PS {P : Program} {f : Nat} (hf : FnOk P f (cToP [.int .i64 0]) 1 [.t 2]) (xs : List Int) (hlim : xs.length ≤ LIM) : PS P f [.sl 1 (xs.map encI)] (.sl 1 (xs.map encI)) := by
  refine PS.mk' (Φ := []) 60 hf rfl (by simp) (by simp) fun fn hres => ?_
  simp [cToP]
  intro hb
  refine ⟨by simp only [LIM] at *; omega, ?_⟩
  refine AW.loop (S := fun i : Nat => ⟨[(0, .sl 1 (xs.map encI)), (3, .ms 0 1 0 xs.length), (4, .int .i64 i)], [.arr 1 (upTo encI [.int .i64 0] xs i)]⟩)
    (ok := fun i => i ≤ xs.length) (μ := fun i => xs.length - i) 0 (by simp) (fun _ h => by simpa [upTo_zero] using h) ?_
  intro i hi next
  rcases lt_or_end xs i hi with ⟨x, hx⟩ | rfl
  · have hlt := at_lt hx
    refine vc_go [] [.t 2] 60 hf.mix hres ?_
    have hset : (upTo encI [.int .i64 0] xs i).set i [.int .i64 x] = upTo encI [.int .i64 0] xs (i + 1) := upTo_set hx
    simp [hlt, nth_of hx, upTo_get hlt, AV.isCell, hset]
    intros
    refine ⟨by simp only [BIG] at *; omega, ?_⟩
    exact next (i + 1) hlt (by omega)
  · refine vc_go [] [.t 2] 60 hf.mix hres ?_
    simp [upTo_all, tupOf]
    exact fun _ => ⟨⟨fun x _ => by simp [encI], hb⟩, List.take_of_length_le (by simp)⟩

def cEqS (es g : Nat) : CC :=
 .seq (.reg [0, 1] [O 4 (.mv (.c (.bool false)))])
 (.seq (.seq (.reg [0, 1, 10] [O 6 (.mv (.t 0)), O 7 (.lenl (.t 6)), O 8 (.mv (.t 1)), O 9 (.lenl (.t 8)), O 10 (.bin .neq (.t 7) (.t 9))])
 (.cond (.t 10) (.seq (.reg [4] [O 4 (.mv (.c (.bool false)))])
 (.ret)) (.skip)))
 (.seq (.seq (.reg [0, 1, 5] [O 5 (.mv (.c (.int .i64 0)))])
 (.block 0 (.loop (.seq (.seq (.reg [0, 1, 5, 14] [O 11 (.mv (.t 5)), O 12 (.mv (.t 0)), O 13 (.lenl (.t 12)), O 14 (.bin .lss (.t 11) (.t 13))])
 (.cond (.t 14) (.skip) (.exit 0)))
 (.seq (.block 1 (.seq (.regd [0, 1, 5, 26] [0, 1, 2, 3, 4, 5, 6, 7, 8, 9] [0, 0, 3, 7, 0, 0, 48, 112, 255, 511] [0, 0, 0, 1, 0, 0, 0, 1, 2, 0] [O 17 (.mv (.t 0)), O 18 (.mv (.t 5)), O 19 (.ia es (.t 17) (.t 18)), O 20 (.load (some es) (.t 19)), O 21 (.mv (.t 1)), O 22 (.mv (.t 5)), O 23 (.ia es (.t 21) (.t 22)), O 24 (.load (some es) (.t 23)), O 25 (.call g [(.t 20), (.t 24)]), O 26 (.not (.t 25))])
 (.cond (.t 26) (.seq (.reg [4] [O 4 (.mv (.c (.bool false)))])
 (.ret)) (.skip))))
 (.reg [0, 1, 5] [O 15 (.mv (.t 5)), O 16 (.bin .add (.t 15) (.c (.int .i64 1))), O 5 (.mv (.t 16))]))))))
 (.seq (.reg [4] [O 4 (.mv (.c (.bool true)))])
 (.ret))))

theorem eq_drop {α : Type} {xs ys : List α} {i : Nat} {x y : α} (hx : xs[i]? = some x) (hy : ys[i]? = some y) (h : xs.drop i = ys.drop i ↔ xs = ys) :
    (x = y → (xs.drop (i + 1) = ys.drop (i + 1) ↔ xs = ys)) ∧ (x ≠ y → ¬ xs = ys) := by
  rw [drop_at hx, drop_at hy] at h
  constructor
  · intro e
    subst e
    rw [← h]; simp
  · intro hne
    rw [← h]; simp [hne]

theorem eqS_PS {P : Program} {α : Type} {es f g : Nat} {enc : α → List AV} (he : EncOk es enc) (hf : FnOk P f (cEqS es g) 2 [.t 4]) (xs ys : List α)
    (hx : ∀ x ∈ xs, ∀ y, PS P g [.agg (enc x), .agg (enc y)] (.bool (eqb x y))) : PS P f [.sl es (xs.map enc), .sl es (ys.map enc)] (.bool (eqb xs ys)) := by
  let e : En P := mkE g (fun p : α × α => [.agg (enc p.1), .agg (enc p.2)]) (fun p => p.1 ∈ xs) (fun p => .bool (eqb p.1 p.2)) (fun p h => hx _ h _)
  have esem : ∀ x y, e.sem [.agg (enc x), .agg (enc y)] = some (x ∈ xs, .bool (eqb x y)) := fun x y =>
    mkE_sem (a := (x, y)) (fun a b h => by
      simp only [List.cons.injEq, AV.agg.injEq] at h
      exact Prod.ext (he.inj _ _ h.1) (he.inj _ _ h.2.1))
  have ef : e.f = g := rfl
  clear_value e
  refine PS.mk' (Φ := [e]) 60 hf rfl (by simp) (by simp) fun fn hres => ?_
  simp [cEqS, tupOf]
  intro hb hb2
  refine ⟨fun h e => h (by rw [e]), fun h => ?_⟩
  have hlen : xs.length = ys.length := by omega
  refine AW.loop (S := fun i : Nat => ⟨[(0, .sl es (xs.map enc)), (1, .sl es (ys.map enc)), (5, .int .i64 i)], []⟩)
    (ok := fun i => i ≤ xs.length ∧ (xs.drop i = ys.drop i ↔ xs = ys)) (μ := fun i => xs.length - i) 0 (by simp) (fun _ h => h) ?_
  intro i ⟨hi, heq⟩ next
  rcases lt_or_end xs i hi with ⟨x, hx⟩ | rfl
  · have hlt := at_lt hx
    obtain ⟨y, hy⟩ : ∃ y, ys[i]? = some y := ⟨_, List.getElem?_eq_getElem (by omega)⟩
    have hmem := List.mem_of_getElem? hx
    have ht : ∀ x, (enc x).take es = enc x := fun x => List.take_of_length_le (by rw [he.len]; exact Nat.le_refl _)
    obtain ⟨d1, d2⟩ := eq_drop hx hy heq
    refine vc_go [e] [.t 4] 60 hf.mix hres ?_
    simp [← hlen, hlt, nth_of hx, nth_of hy, he.len, ef, ht, esem, hmem, tupOf]
    refine fun _ => ⟨fun h => d2 h, fun h => ⟨by simp only [BIG] at *; omega, ?_⟩⟩
    exact next (i + 1) ⟨hlt, d1 h⟩ (by omega)
  · refine vc_go [e] [.t 4] 60 hf.mix hres ?_
    simp [tupOf]
    intro _
    rw [← heq, List.drop_length, hlen, List.drop_length]

def cEqP : CC :=
 .seq (.reg [0, 1] [O 4 (.mv (.c (.bool false)))])
 (.seq (.seq (.reg [0, 1, 10] [O 6 (.mv (.t 0)), O 7 (.lenl (.t 6)), O 8 (.mv (.t 1)), O 9 (.lenl (.t 8)), O 10 (.bin .neq (.t 7) (.t 9))])
 (.cond (.t 10) (.seq (.reg [4] [O 4 (.mv (.c (.bool false)))])
 (.ret)) (.skip)))
 (.seq (.seq (.reg [0, 1, 5] [O 5 (.mv (.c (.int .i64 0)))])
 (.block 0 (.loop (.seq (.seq (.reg [0, 1, 5, 14] [O 11 (.mv (.t 5)), O 12 (.mv (.t 0)), O 13 (.lenl (.t 12)), O 14 (.bin .lss (.t 11) (.t 13))])
 (.cond (.t 14) (.skip) (.exit 0)))
 (.seq (.block 1 (.seq (.regd [0, 1, 5, 25] [0, 1, 2, 3, 4, 5, 6, 7, 8] [0, 0, 3, 7, 0, 0, 48, 112, 255] [0, 0, 0, 1, 0, 0, 0, 1, 0] [O 17 (.mv (.t 0)), O 18 (.mv (.t 5)), O 19 (.ia 1 (.t 17) (.t 18)), O 20 (.load none (.t 19)), O 21 (.mv (.t 1)), O 22 (.mv (.t 5)), O 23 (.ia 1 (.t 21) (.t 22)), O 24 (.load none (.t 23)), O 25 (.bin .neq (.t 20) (.t 24))])
 (.cond (.t 25) (.seq (.reg [4] [O 4 (.mv (.c (.bool false)))])
 (.ret)) (.skip))))
 (.reg [0, 1, 5] [O 15 (.mv (.t 5)), O 16 (.bin .add (.t 15) (.c (.int .i64 1))), O 5 (.mv (.t 16))]))))))
 (.seq (.reg [4] [O 4 (.mv (.c (.bool true)))])
 (.ret))))

theorem eqStr_PS {P : Program} {f : Nat} (hf : FnOk P f cEqP 2 [.t 4]) (xs ys : List Str) : PS P f [.sl 1 (xs.map encS), .sl 1 (ys.map encS)] (.bool (eqb xs ys)) := by
  refine PS.mk' (Φ := []) 60 hf rfl (by simp) (by simp) fun fn hres => ?_
  simp [cEqP, tupOf]
  intro hb hb2
  refine ⟨fun h e => h (by rw [e]), fun h => ?_⟩
  have hlen : xs.length = ys.length := by omega
  refine AW.loop (S := fun i : Nat => ⟨[(0, .sl 1 (xs.map encS)), (1, .sl 1 (ys.map encS)), (5, .int .i64 i)], []⟩)
    (ok := fun i => i ≤ xs.length ∧ (xs.drop i = ys.drop i ↔ xs = ys)) (μ := fun i => xs.length - i) 0 (by simp) (fun _ h => h) ?_
  intro i ⟨hi, heq⟩ next
  rcases lt_or_end xs i hi with ⟨x, hx⟩ | rfl
  · have hlt := at_lt hx
    obtain ⟨y, hy⟩ : ∃ y, ys[i]? = some y := ⟨_, List.getElem?_eq_getElem (by omega)⟩
    obtain ⟨d1, d2⟩ := eq_drop hx hy heq
    refine vc_go [] [.t 4] 60 hf.mix hres ?_
    simp [← hlen, hlt, nth_of hx, nth_of hy, tupOf]
    refine fun _ => ⟨fun h => d2 h, fun h => ⟨by simp only [BIG] at *; omega, ?_⟩⟩
    exact next (i + 1) ⟨hlt, d1 h⟩ (by omega)
  · refine vc_go [] [.t 4] 60 hf.mix hres ?_
    simp [tupOf]
    intro _
    rw [← heq, List.drop_length, hlen, List.drop_length]

theorem eqI_PS {P : Program} {f : Nat} (hf : FnOk P f cEqP 2 [.t 4]) (xs ys : List Int) : PS P f [.sl 1 (xs.map encI), .sl 1 (ys.map encI)] (.bool (eqb xs ys)) := by
  refine PS.mk' (Φ := []) 60 hf rfl (by simp) (by simp) fun fn hres => ?_
  simp [cEqP, tupOf]
  intro hb hb2
  refine ⟨fun h e => h (by rw [e]), fun h => ?_⟩
  have hlen : xs.length = ys.length := by omega
  refine AW.loop (S := fun i : Nat => ⟨[(0, .sl 1 (xs.map encI)), (1, .sl 1 (ys.map encI)), (5, .int .i64 i)], []⟩)
    (ok := fun i => i ≤ xs.length ∧ (xs.drop i = ys.drop i ↔ xs = ys)) (μ := fun i => xs.length - i) 0 (by simp) (fun _ h => h) ?_
  intro i ⟨hi, heq⟩ next
  rcases lt_or_end xs i hi with ⟨x, hx⟩ | rfl
  · have hlt := at_lt hx
    obtain ⟨y, hy⟩ : ∃ y, ys[i]? = some y := ⟨_, List.getElem?_eq_getElem (by omega)⟩
    obtain ⟨d1, d2⟩ := eq_drop hx hy heq
    refine vc_go [] [.t 4] 60 hf.mix hres ?_
    simp [← hlen, hlt, nth_of hx, nth_of hy, tupOf]
    refine fun _ => ⟨fun h => d2 h, fun h => ⟨by simp only [BIG] at *; omega, ?_⟩⟩
    exact next (i + 1) ⟨hlt, d1 h⟩ (by omega)
  · refine vc_go [] [.t 4] 60 hf.mix hres ?_
    simp [tupOf]
    intro _
    rw [← heq, List.drop_length, hlen, List.drop_length]

end Go.Fw
