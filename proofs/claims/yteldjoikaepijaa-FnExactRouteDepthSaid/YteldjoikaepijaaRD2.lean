/- A part of the proof: codes of functions, their contracts, and what joins them. -/
import Derived.Test.YteldjoikaepijaaRD0
namespace Go.Fw
open Go Go.Proofs

mutual
def szSel : Sel → Nat
  | .mk a0 name _ _ kids => a0.length + name.length + szSelL kids
def szSelL : List Sel → Nat
  | [] => 0
  | x :: l => 1 + szSel x + szSelL l
end
theorem szSelL_eq : ∀ l : List Sel, szSelL l = l.length + sumN szSel l
  | [] => rfl
  | x :: l => by simp only [szSelL, szSelL_eq l, sumN, List.length_cons]; omega
theorem szSel_eq (x : Sel) : szSel x = x.as.length + x.name.length + (x.kids.length + sumN szSel x.kids) := by
  cases x; simp only [szSel, szSelL_eq, Sel.as, Sel.name, Sel.kids]
theorem sumN_mem {α : Type} {sz : α → Nat} : ∀ {l : List α} {x : α}, x ∈ l → sz x ≤ sumN sz l
  | y :: l, x, h => by
    simp only [sumN]
    rcases List.mem_cons.1 h with rfl | h
    · omega
    · have := sumN_mem (sz := sz) h; omega
theorem szSel_kid {x y : Sel} (h : y ∈ x.kids) : szSel y < szSel x := by
  have := sumN_mem (sz := szSel) h
  have h2 : 0 < x.kids.length := List.length_pos_of_mem h
  rw [szSel_eq x]; omega

theorem szSel_PS (x : Sel) (n : Int) (h0 : 0 ≤ n) (h1 : n ≤ BIG) : PS Try.prog 50 [.agg (encSel x), .int .i64 n] (.int .i64 (szr (szSel x) n)) := by
  induction hk : szSel x using Nat.strongRecOn generalizing x n with
  | ind k ih =>
    subst hk
    let e : En Try.prog := mkE 37 (fun p : List Sel × Int => [.sl 5 (p.1.map encSel), .int .i64 p.2]) (fun p => p.1 = x.kids ∧ 0 ≤ p.2 ∧ p.2 ≤ BIG) (fun p => .int .i64 (szr (p.1.length + sumN szSel p.1) p.2))
      (fun p h => szS_PS encOk_Sel ok37 p.1 (fun y hy m g0 g1 => ih _ (szSel_kid (h.1 ▸ hy)) y m g0 g1 rfl) p.2 h.2.1 h.2.2)
    have esem : ∀ l m, e.sem [.sl 5 (l.map encSel), .int .i64 m] = some ((l = x.kids ∧ 0 ≤ m ∧ m ≤ BIG), .int .i64 (szr (l.length + sumN szSel l) m)) := fun l m =>
      mkE_sem (a := (l, m)) (fun a b h => by
        simp at h
        exact Prod.ext h.1 h.2)
    have ef : e.f = 37 := rfl
    clear_value e
    refine PS.mk' (Φ := [e]) 100 ok50 rfl (by simp) (by simp) fun fn hres => ?_
    simp [c50, ef, esem, tupOf]
    have hs := szSel_eq x
    simp only [BIG_eqN] at *
    rcases szr_cases (szSel x) n with ⟨g1, g2⟩ | ⟨g1, g2⟩ <;>
      rcases szr_cases (x.kids.length + sumN szSel x.kids) (n - x.as.length - x.name.length) with ⟨g3, g4⟩ | ⟨g3, g4⟩ <;> simp only [g2, g4, implies_true, true_and, and_true] <;> omega
noncomputable def e36 : En Try.prog := mkE 36 (fun (q : (List Str) × Int) => match q with | ⟨l, n⟩ => [.sl 1 (l.map encS), .int .i64 n]) (fun (q : (List Str) × Int) => match q with | ⟨l, n⟩ => 0 ≤ n ∧ n ≤ BIG) (fun (q : (List Str) × Int) => match q with | ⟨l, n⟩ => .int .i64 (szr (l.length + sumN List.length l) n)) (fun (q : (List Str) × Int) => match q with | ⟨l, n⟩ => fun h => szStr_PS ok36 l n h.1 h.2)
@[simp] theorem e36_f : e36.f = 36 := rfl
@[simp] theorem e36_sem (l : List Str) (n : Int) : e36.sem [.sl 1 (l.map encS), .int .i64 n] = some (0 ≤ n ∧ n ≤ BIG, .int .i64 (szr (l.length + sumN List.length l) n)) := mkE_sem (a := (l, n)) (by rintro ⟨a0, a1⟩ ⟨b0, b1⟩ h; simp at h; simp [h])
noncomputable def e38 : En Try.prog := mkE 38 (fun (q : (List Int) × Int) => match q with | ⟨l, n⟩ => [.sl 1 (l.map encI), .int .i64 n]) (fun (q : (List Int) × Int) => match q with | ⟨l, n⟩ => 0 ≤ n ∧ n ≤ BIG) (fun (q : (List Int) × Int) => match q with | ⟨l, n⟩ => .int .i64 (szr l.length n)) (fun (q : (List Int) × Int) => match q with | ⟨l, n⟩ => fun h => szI_PS ok38 l n h.1 h.2)
@[simp] theorem e38_f : e38.f = 38 := rfl
@[simp] theorem e38_sem (l : List Int) (n : Int) : e38.sem [.sl 1 (l.map encI), .int .i64 n] = some (0 ≤ n ∧ n ≤ BIG, .int .i64 (szr l.length n)) := mkE_sem (a := (l, n)) (by rintro ⟨a0, a1⟩ ⟨b0, b1⟩ h; simp at h; simp [h])
noncomputable def e37 : En Try.prog := mkE 37 (fun (q : (List Sel) × Int) => match q with | ⟨l, n⟩ => [.sl 5 (l.map encSel), .int .i64 n]) (fun (q : (List Sel) × Int) => match q with | ⟨l, n⟩ => 0 ≤ n ∧ n ≤ BIG) (fun (q : (List Sel) × Int) => match q with | ⟨l, n⟩ => .int .i64 (szr (l.length + sumN szSel l) n)) (fun (q : (List Sel) × Int) => match q with | ⟨l, n⟩ => fun h => szS_PS encOk_Sel ok37 l (fun y _ m g0 g1 => szSel_PS y m g0 g1) n h.1 h.2)
@[simp] theorem e37_f : e37.f = 37 := rfl
@[simp] theorem e37_sem (l : List Sel) (n : Int) : e37.sem [.sl 5 (l.map encSel), .int .i64 n] = some (0 ≤ n ∧ n ≤ BIG, .int .i64 (szr (l.length + sumN szSel l) n)) := mkE_sem (a := (l, n)) (by rintro ⟨a0, a1⟩ ⟨b0, b1⟩ h; simp at h; simp [h])

def szStp (x : Stp) : Nat := (x.way.length + sumN List.length x.way) + x.type.length + (x.sels.length + sumN szSel x.sels) + x.after.length + (x.brings.length + sumN List.length x.brings)

set_option maxRecDepth 20000 in
theorem szStp_PS (x : Stp) (n : Int) (h0 : 0 ≤ n) (h1 : n ≤ BIG) : PS Try.prog 19 [.agg (encStp x), .int .i64 n] (.int .i64 (szr (szStp x) n)) := by
  refine PS.mk' (Φ := [e36, e37, e38]) 200 ok19 rfl (by simp) (by simp) fun fn hres => ?_
  have hs : szStp x = (x.way.length + sumN List.length x.way) + x.type.length + (x.sels.length + sumN szSel x.sels) + x.after.length + (x.brings.length + sumN List.length x.brings) := rfl
  simp [c19, tupOf]
  simp only [BIG_eqN] at *
  rcases szr_cases (szStp x) n with ⟨g1, g2⟩ | ⟨g1, g2⟩ <;> simp only [g2] <;>
  rcases szr_cases (x.way.length + sumN List.length x.way) n with ⟨g3, g4⟩ | ⟨g3, g4⟩ <;> simp only [g4, implies_true, true_and, and_true] <;> try omega
  all_goals rcases szr_cases (x.sels.length + sumN szSel x.sels) (n - (x.way.length + sumN List.length x.way) - x.type.length) with ⟨g5, g6⟩ | ⟨g5, g6⟩ <;> simp only [g6, implies_true, true_and, and_true] <;> try omega
  all_goals rcases szr_cases x.after.length (n - (x.way.length + sumN List.length x.way) - x.type.length - (x.sels.length + sumN szSel x.sels)) with ⟨g7, g8⟩ | ⟨g7, g8⟩ <;> simp only [g8, implies_true, true_and, and_true] <;> try omega
  all_goals rcases szr_cases (x.brings.length + sumN List.length x.brings) (n - (x.way.length + sumN List.length x.way) - x.type.length - (x.sels.length + sumN szSel x.sels) - x.after.length) with ⟨g9, g10⟩ | ⟨g9, g10⟩ <;> simp only [g10, implies_true, true_and, and_true] <;> omega

theorem toSel_PS (x : Sel) (h : szSel x ≤ LIM) : PS Try.prog 51 [.agg (encSel x)] (.agg (encSel x)) := by
  induction hk : szSel x using Nat.strongRecOn generalizing x with
  | ind k ih =>
    subst hk
    have hkl : x.kids.length ≤ LIM := by have := szSel_eq x; omega
    let e : En Try.prog := mkE 40 (fun l : List Sel => [.sl 5 (l.map encSel)]) (fun l => l = x.kids) (fun l => .sl 5 (l.map encSel))
      (fun l hl => toS_PS encOk_Sel rfl ok40 l (fun y hy => ih _ (szSel_kid (hl ▸ hy)) y (by have := szSel_kid (hl ▸ hy); omega) rfl) (hl ▸ hkl))
    have esem : ∀ l, e.sem [.sl 5 (l.map encSel)] = some (l = x.kids, .sl 5 (l.map encSel)) := fun l => mkE_sem (a := l) (by intro a b h; simpa using h)
    have ef : e.f = 40 := rfl
    clear_value e
    refine PS.mk' (Φ := [e]) 200 ok51 rfl (by simp) (by simp) fun fn hres => ?_
    simp [c51, ef, esem, tupOf, encSel_eq, AV.isCell]

theorem eqSel_PS (x y : Sel) : PS Try.prog 52 [.agg (encSel x), .agg (encSel y)] (.bool (eqb x y)) := by
  induction hk : szSel x using Nat.strongRecOn generalizing x y with
  | ind k ih =>
    subst hk
    let e : En Try.prog := mkE 43 (fun p : List Sel × List Sel => [.sl 5 (p.1.map encSel), .sl 5 (p.2.map encSel)]) (fun p => p.1 = x.kids) (fun p => .bool (eqb p.1 p.2))
      (fun p hl => eqS_PS encOk_Sel ok43 p.1 p.2 (fun y hy z => ih _ (szSel_kid (hl ▸ hy)) y z rfl))
    have esem : ∀ l l', e.sem [.sl 5 (l.map encSel), .sl 5 (l'.map encSel)] = some (l = x.kids, .bool (eqb l l')) := fun l l' => mkE_sem (a := (l, l')) (by rintro ⟨a, b⟩ ⟨c, d⟩ h; simp at h; simp [h])
    have ef : e.f = 43 := rfl
    clear_value e
    refine PS.mk' (Φ := [e]) 200 ok52 rfl (by simp) (by simp) fun fn hres => ?_
    simp [c52, ef, esem, tupOf]
    obtain ⟨a1, a2, a3, a4, a5⟩ := x
    obtain ⟨b1, b2, b3, b4, b5⟩ := y
    simp
    simp +contextual
noncomputable def e39 : En Try.prog := mkE 39 (fun (l : List Str) => [.sl 1 (l.map encS)]) (fun (l : List Str) => l.length ≤ LIM) (fun (l : List Str) => .sl 1 (l.map encS)) (fun (l : List Str) h => toStr_PS ok39 l h)
@[simp] theorem e39_f : e39.f = 39 := rfl
@[simp] theorem e39_sem (l : List Str) : e39.sem [.sl 1 (l.map encS)] = some (l.length ≤ LIM, .sl 1 (l.map encS)) := mkE_sem (a := (l)) (by intro a b h; simpa using h)
noncomputable def e41 : En Try.prog := mkE 41 (fun (l : List Int) => [.sl 1 (l.map encI)]) (fun (l : List Int) => l.length ≤ LIM) (fun (l : List Int) => .sl 1 (l.map encI)) (fun (l : List Int) h => toI_PS ok41 l h)
@[simp] theorem e41_f : e41.f = 41 := rfl
@[simp] theorem e41_sem (l : List Int) : e41.sem [.sl 1 (l.map encI)] = some (l.length ≤ LIM, .sl 1 (l.map encI)) := mkE_sem (a := (l)) (by intro a b h; simpa using h)
noncomputable def e40 : En Try.prog := mkE 40 (fun (l : List Sel) => [.sl 5 (l.map encSel)]) (fun (l : List Sel) => l.length + sumN szSel l ≤ LIM) (fun (l : List Sel) => .sl 5 (l.map encSel)) (fun (l : List Sel) h => toS_PS encOk_Sel rfl ok40 l (fun y hy => toSel_PS y (by have := sumN_mem (sz := szSel) hy; omega)) (by omega))
@[simp] theorem e40_f : e40.f = 40 := rfl
@[simp] theorem e40_sem (l : List Sel) : e40.sem [.sl 5 (l.map encSel)] = some (l.length + sumN szSel l ≤ LIM, .sl 5 (l.map encSel)) := mkE_sem (a := (l)) (by intro a b h; simpa using h)
noncomputable def e42 : En Try.prog := mkE 42 (fun (q : (List Str) × (List Str)) => match q with | ⟨l, m⟩ => [.sl 1 (l.map encS), .sl 1 (m.map encS)]) (fun (q : (List Str) × (List Str)) => match q with | ⟨l, m⟩ => True) (fun (q : (List Str) × (List Str)) => match q with | ⟨l, m⟩ => .bool (eqb l m)) (fun (q : (List Str) × (List Str)) => match q with | ⟨l, m⟩ => fun h => eqStr_PS ok42 l m)
@[simp] theorem e42_f : e42.f = 42 := rfl
@[simp] theorem e42_sem (l : List Str) (m : List Str) : e42.sem [.sl 1 (l.map encS), .sl 1 (m.map encS)] = some (True, .bool (eqb l m)) := mkE_sem (a := (l, m)) (by rintro ⟨a0, a1⟩ ⟨b0, b1⟩ h; simp at h; simp [h])
noncomputable def e13 : En Try.prog := mkE 13 (fun (q : (List Int) × (List Int)) => match q with | ⟨l, m⟩ => [.sl 1 (l.map encI), .sl 1 (m.map encI)]) (fun (q : (List Int) × (List Int)) => match q with | ⟨l, m⟩ => True) (fun (q : (List Int) × (List Int)) => match q with | ⟨l, m⟩ => .bool (eqb l m)) (fun (q : (List Int) × (List Int)) => match q with | ⟨l, m⟩ => fun h => eqI_PS ok13 l m)
@[simp] theorem e13_f : e13.f = 13 := rfl
@[simp] theorem e13_sem (l : List Int) (m : List Int) : e13.sem [.sl 1 (l.map encI), .sl 1 (m.map encI)] = some (True, .bool (eqb l m)) := mkE_sem (a := (l, m)) (by rintro ⟨a0, a1⟩ ⟨b0, b1⟩ h; simp at h; simp [h])
noncomputable def e43 : En Try.prog := mkE 43 (fun (q : (List Sel) × (List Sel)) => match q with | ⟨l, m⟩ => [.sl 5 (l.map encSel), .sl 5 (m.map encSel)]) (fun (q : (List Sel) × (List Sel)) => match q with | ⟨l, m⟩ => True) (fun (q : (List Sel) × (List Sel)) => match q with | ⟨l, m⟩ => .bool (eqb l m)) (fun (q : (List Sel) × (List Sel)) => match q with | ⟨l, m⟩ => fun h => eqS_PS encOk_Sel ok43 l m (fun x _ y => eqSel_PS x y))
@[simp] theorem e43_f : e43.f = 43 := rfl
@[simp] theorem e43_sem (l : List Sel) (m : List Sel) : e43.sem [.sl 5 (l.map encSel), .sl 5 (m.map encSel)] = some (True, .bool (eqb l m)) := mkE_sem (a := (l, m)) (by rintro ⟨a0, a1⟩ ⟨b0, b1⟩ h; simp at h; simp [h])

theorem toStp_PS (x : Stp) (h : szStp x ≤ LIM) : PS Try.prog 21 [.agg (encStp x)] (.agg (encStp x)) := by
  have hs : szStp x = (x.way.length + sumN List.length x.way) + x.type.length + (x.sels.length + sumN szSel x.sels) + x.after.length + (x.brings.length + sumN List.length x.brings) := rfl
  refine PS.mk' (Φ := [e39, e40, e41]) 200 ok21 rfl (by simp) (by simp) fun fn hres => ?_
  simp [c21, tupOf, encStp_eq, AV.isCell]
  intros
  simp only [LIM] at *
  omega

set_option maxRecDepth 20000 in
theorem eqStp_PS (x y : Stp) : PS Try.prog 23 [.agg (encStp x), .agg (encStp y)] (.bool (eqb x y)) := by
  refine PS.mk' (Φ := [e42, e43, e13]) 200 ok23 rfl (by simp) (by simp) fun fn hres => ?_
  simp [c23, tupOf]
  obtain ⟨a1, a2, a3, a4, a5, a6⟩ := x
  obtain ⟨b1, b2, b3, b4, b5, b6⟩ := y
  simp +contextual

theorem in2_PS (a b c : Int) : PS Try.prog 22 [.int .i64 a, .int .i64 b, .int .i64 c] (.bool (decide (b ≤ a) && decide (a ≤ c))) := by
  refine PS.mk' (Φ := []) 200 ok22 rfl (by simp) (by simp) fun fn hres => ?_
  simp [c22, tupOf]
  omega

theorem in_PS (a b c : Int) : PS Try.prog 20 [.int .i64 a, .int .i64 b, .int .i64 c] (.bool (decide (b ≤ a) && decide (a ≤ c))) := by
  refine PS.mk' (Φ := []) 200 ok20 rfl (by simp) (by simp) fun fn hres => ?_
  simp [c20, tupOf]
  omega
noncomputable def e6 : En Try.prog := mkE 6 (fun (q : (List Stp) × Int) => match q with | ⟨l, n⟩ => [.sl 6 (l.map encStp), .int .i64 n]) (fun (q : (List Stp) × Int) => match q with | ⟨l, n⟩ => 0 ≤ n ∧ n ≤ BIG) (fun (q : (List Stp) × Int) => match q with | ⟨l, n⟩ => .int .i64 (szr (l.length + sumN szStp l) n)) (fun (q : (List Stp) × Int) => match q with | ⟨l, n⟩ => fun h => szS_PS encOk_Stp ok6 l (fun y _ m g0 g1 => szStp_PS y m g0 g1) n h.1 h.2)
@[simp] theorem e6_f : e6.f = 6 := rfl
@[simp] theorem e6_sem (l : List Stp) (n : Int) : e6.sem [.sl 6 (l.map encStp), .int .i64 n] = some (0 ≤ n ∧ n ≤ BIG, .int .i64 (szr (l.length + sumN szStp l) n)) := mkE_sem (a := (l, n)) (by rintro ⟨a0, a1⟩ ⟨b0, b1⟩ h; simp at h; simp [h])
noncomputable def e8 : En Try.prog := mkE 8 (fun (l : List Stp) => [.sl 6 (l.map encStp)]) (fun (l : List Stp) => l.length + sumN szStp l ≤ LIM) (fun (l : List Stp) => .sl 6 (l.map encStp)) (fun (l : List Stp) h => toS_PS encOk_Stp rfl ok8 l (fun y hy => toStp_PS y (by have := sumN_mem (sz := szStp) hy; omega)) (by omega))
@[simp] theorem e8_f : e8.f = 8 := rfl
@[simp] theorem e8_sem (l : List Stp) : e8.sem [.sl 6 (l.map encStp)] = some (l.length + sumN szStp l ≤ LIM, .sl 6 (l.map encStp)) := mkE_sem (a := (l)) (by intro a b h; simpa using h)
noncomputable def e10 : En Try.prog := mkE 10 (fun (q : (List Stp) × (List Stp)) => match q with | ⟨l, m⟩ => [.sl 6 (l.map encStp), .sl 6 (m.map encStp)]) (fun (q : (List Stp) × (List Stp)) => match q with | ⟨l, m⟩ => True) (fun (q : (List Stp) × (List Stp)) => match q with | ⟨l, m⟩ => .bool (eqb l m)) (fun (q : (List Stp) × (List Stp)) => match q with | ⟨l, m⟩ => fun h => eqS_PS encOk_Stp ok10 l m (fun x _ y => eqStp_PS x y))
@[simp] theorem e10_f : e10.f = 10 := rfl
@[simp] theorem e10_sem (l : List Stp) (m : List Stp) : e10.sem [.sl 6 (l.map encStp), .sl 6 (m.map encStp)] = some (True, .bool (eqb l m)) := mkE_sem (a := (l, m)) (by rintro ⟨a0, a1⟩ ⟨b0, b1⟩ h; simp at h; simp [h])
noncomputable def e20 : En Try.prog := mkE 20 (fun (q : Int × Int × Int) => match q with | ⟨a, b, c⟩ => [.int .i64 a, .int .i64 b, .int .i64 c]) (fun (q : Int × Int × Int) => match q with | ⟨a, b, c⟩ => True) (fun (q : Int × Int × Int) => match q with | ⟨a, b, c⟩ => .bool (decide (b ≤ a) && decide (a ≤ c))) (fun (q : Int × Int × Int) => match q with | ⟨a, b, c⟩ => fun h => in_PS a b c)
@[simp] theorem e20_f : e20.f = 20 := rfl
@[simp] theorem e20_sem (a : Int) (b : Int) (c : Int) : e20.sem [.int .i64 a, .int .i64 b, .int .i64 c] = some (True, .bool (decide (b ≤ a) && decide (a ≤ c))) := mkE_sem (a := (a, b, c)) (by rintro ⟨a0, a1, a2⟩ ⟨b0, b1, b2⟩ h; simp at h; simp [h])
noncomputable def e22 : En Try.prog := mkE 22 (fun (q : Int × Int × Int) => match q with | ⟨a, b, c⟩ => [.int .i64 a, .int .i64 b, .int .i64 c]) (fun (q : Int × Int × Int) => match q with | ⟨a, b, c⟩ => True) (fun (q : Int × Int × Int) => match q with | ⟨a, b, c⟩ => .bool (decide (b ≤ a) && decide (a ≤ c))) (fun (q : Int × Int × Int) => match q with | ⟨a, b, c⟩ => fun h => in2_PS a b c)
@[simp] theorem e22_f : e22.f = 22 := rfl
@[simp] theorem e22_sem (a : Int) (b : Int) (c : Int) : e22.sem [.int .i64 a, .int .i64 b, .int .i64 c] = some (True, .bool (decide (b ≤ a) && decide (a ≤ c))) := mkE_sem (a := (a, b, c)) (by rintro ⟨a0, a1, a2⟩ ⟨b0, b1, b2⟩ h; simp at h; simp [h])
end Go.Fw
