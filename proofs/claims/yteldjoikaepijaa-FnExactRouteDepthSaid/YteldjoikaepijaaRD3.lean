/- A part of the proof: codes of functions, their contracts, and what joins them. -/
import Derived.Test.YteldjoikaepijaaRD2
namespace Go.Fw
open Go Go.Proofs

def stepD (ds : List Int) : List Int → Int → Int
  | [], d => d
  | a :: l, d => stepD ds l (if 0 ≤ a ∧ a < ds.length ∧ d < ds.getD a.toNat 0 + 1 then ds.getD a.toNat 0 + 1 else d)

def depthGo : List Int → Int → List Stp → Int
  | _, best, [] => best
  | ds, best, s :: l => depthGo (ds ++ [stepD ds s.after 1]) (if best < stepD ds s.after 1 then stepD ds s.after 1 else best) l

/-- One live block behind the dead ones. -/
def deads (i : Nat) (e : Ent) : List Ent := List.replicate i .dead ++ [e]
@[simp] theorem deads_get {i : Nat} {e : Ent} : (deads i e)[i]? = some e := by simp [deads]
@[simp] theorem deads_getE {i : Nat} {e : Ent} {h : i < (deads i e).length} : (deads i e)[i] = e := by simp [deads]
@[simp] theorem deads_len {i : Nat} {e : Ent} : (deads i e).length = i + 1 := by simp [deads]
@[simp] theorem deads_app {i : Nat} {e e' : Ent} : (deads i e).set i .dead ++ [e'] = deads (i + 1) e' := by
  simp [deads, List.set_append_right, List.replicate_succ']
theorem deads_zero {e : Ent} : [e] = deads 0 e := rfl

set_option maxRecDepth 20000 in
theorem spec_PS (xs : List Stp) (hlim : xs.length ≤ LIM) : PS Try.prog 7 [.sl 6 (xs.map encStp)] (.int .i64 (depthGo [] 0 xs)) := by
  refine PS.mk' (Φ := [e20]) 200 ok7 rfl (by simp) (by simp) fun fn hres => ?_
  simp [c7]
  refine AW.loop (S := fun p : List Int × Int => ⟨[(0, .sl 6 (xs.map encStp)), (3, .int .i64 p.2), (4, .ms p.1.length 1 0 p.1.length), (5, .int .i64 p.1.length)], deads p.1.length (.arr 1 (p.1.map encI))⟩)
    (ok := fun p => p.1.length ≤ xs.length ∧ (∀ d ∈ p.1, 0 ≤ d ∧ d ≤ p.1.length) ∧ depthGo p.1 p.2 (xs.drop p.1.length) = depthGo [] 0 xs) (μ := fun p => xs.length - p.1.length)
    ([], 0) (by simp) (fun _ h => ?_) ?_
  · refine AW.own (n := 4) (es := 1) (by simp) ?_
    refine AW.sub0 (fun p hp => ?_) ?_ h
    · simp at hp; rcases hp with rfl | rfl | rfl | rfl <;> simp
    · rfl
  rintro ⟨ds, best⟩ ⟨hi, hds, heq⟩ next
  simp only at hi hds heq
  rcases lt_or_end xs ds.length hi with ⟨x, hx⟩ | he
  · have hlt := at_lt hx
    rw [drop_at hx] at heq
    refine vc_go [e20] [.t 2] 60 ok7.mix hres ?_
    simp [hlt, nth_of hx]
    intro hb
    refine AW.loop (S := fun p : Nat × Int => ⟨[(0, .sl 6 (xs.map encStp)), (3, .int .i64 best), (4, .ms ds.length 1 0 ds.length), (5, .int .i64 ds.length), (6, .int .i64 p.2), (7, .int .i64 p.1)], deads ds.length (.arr 1 (ds.map encI))⟩)
      (ok := fun p => p.1 ≤ x.after.length ∧ 1 ≤ p.2 ∧ p.2 ≤ ds.length + 1 ∧ stepD ds (x.after.drop p.1) p.2 = stepD ds x.after 1) (μ := fun p => x.after.length - p.1) (0, 1) ⟨by simp, by simp, by simp; omega, rfl⟩ (fun _ h => h) ?_
    rintro ⟨j, d⟩ ⟨hj, hd1, hd2, heq2⟩ next2
    simp only at hj hd1 hd2 heq2
    rcases lt_or_end x.after j hj with ⟨a, ha⟩ | he
    · have hjlt := at_lt ha
      rw [drop_at ha] at heq2
      simp only [stepD] at heq2
      clear next
      by_cases hin : 0 ≤ a ∧ a < ds.length
      · obtain ⟨v, hv⟩ : ∃ v, ds[a.toNat]? = some v := ⟨_, List.getElem?_eq_getElem (by omega)⟩
        have hvd : ds.getD a.toNat 0 = v := by simp [List.getD, hv]
        have hv2 := hds v (List.mem_of_getElem? hv)
        rw [hvd] at heq2
        refine vc_go [e20] [.t 2] 60 ok7.mix hres ?_
        have hvE := (List.getElem?_eq_some_iff.1 hv).2
        have hin1 : ¬ ((ds.length : Int) - 1 < a) := by omega
        have hin2 : a ≤ (ds.length : Int) - 1 := by omega
        simp [hlt, nth_of hx, hjlt, nth_of ha, hin, hvE, hin2]
        intro hb2 _ _
        simp only [BIG_eqN] at hb hb2
        refine ⟨by omega, fun _ _ => ⟨by omega, fun hc _ _ => ⟨by omega, by omega, next2 (j + 1, v + 1) ⟨hjlt, by simp; omega, by simp; omega, ?_⟩ (by simp; omega)⟩,
          fun hc => ⟨by omega, next2 (j + 1, d) ⟨hjlt, hd1, hd2, ?_⟩ (by simp; omega)⟩⟩⟩
        · rw [if_pos (by omega)] at heq2; exact heq2
        · rw [if_neg (by omega)] at heq2; exact heq2
      · refine vc_go [e20] [.t 2] 60 ok7.mix hres ?_
        have hin3 : ¬ (0 ≤ a ∧ a ≤ (ds.length : Int) - 1) := by omega
        simp [hlt, nth_of hx, hjlt, nth_of ha]
        intro hb2 _ _
        simp only [BIG_eqN] at hb hb2
        rw [if_neg (by omega)] at heq2
        have := next2 (j + 1, d) ⟨hjlt, hd1, hd2, heq2⟩ (by simp; omega)
        refine ⟨by omega, fun g1 g2 => absurd ⟨g1, g2⟩ hin3, fun _ => ⟨by omega, this⟩⟩
    · refine vc_go [e20] [.t 2] 60 ok7.mix hres ?_
      subst he
      simp only [List.drop_length, stepD] at heq2
      simp [hlt, nth_of hx]
      intro hb2
      have ht : (ds.map encI).take ds.length = ds.map encI := List.take_of_length_le (by simp)
      rw [ht]
      have nx : ∀ b', depthGo (ds ++ [d]) b' (xs.drop (ds.length + 1)) = depthGo [] 0 xs → _ := fun b' hb' => next (ds ++ [d], b') ⟨by simp; omega, fun d' hd' => by
        simp only [List.mem_append, List.mem_singleton] at hd'
        rcases hd' with h | rfl
        · have := hds d' h; simp; omega
        · simp; omega, by simpa using hb'⟩ (by simp; omega)
      simp only [List.length_append, List.length_singleton, List.map_append, List.map_cons, List.map_nil, encI, Int.natCast_add, Int.natCast_one] at nx
      simp only [depthGo] at heq
      rw [← heq2] at heq
      simp only [BIG_eqN] at hb
      refine ⟨by omega, fun hc => ⟨by omega, nx d ?_⟩, fun hc => ⟨by omega, nx best ?_⟩⟩
      · rw [if_pos hc] at heq; exact heq
      · rw [if_neg (by omega)] at heq; exact heq
  · refine vc_go [e20] [.t 2] 60 ok7.mix hres ?_
    rw [he] at heq
    simp [he, tupOf]
    intro _; simpa [depthGo] using heq
end Go.Fw
