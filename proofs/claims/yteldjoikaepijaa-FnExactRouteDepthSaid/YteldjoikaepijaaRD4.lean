/- A part of the proof: codes of functions, their contracts, and what joins them. -/
import Derived.Test.YteldjoikaepijaaRD3
namespace Go.Fw
open Go Go.Proofs

@[simp] theorem drop1_encI {a : Int} : (encI a).drop 1 = [] := rfl
@[simp] theorem tail_encI {a : Int} : (encI a).tail = [] := rfl
@[simp] theorem tail_encS {a : Str} : (encS a).tail = [] := rfl
@[simp] theorem drop1_encS {a : Str} : (encS a).drop 1 = [] := rfl

/-- The depths, the one at hand, and what is still zero. -/
def arrD (ds : List Int) (e : Int) (n : Nat) : List (List AV) := (ds ++ e :: List.replicate n 0).map encI
@[simp] theorem arrD_len {ds : List Int} {e : Int} {n : Nat} : (arrD ds e n).length = ds.length + n + 1 := by simp [arrD]; omega
theorem arrD_get {ds : List Int} {e : Int} {n : Nat} : (arrD ds e n)[ds.length]? = some (encI e) := by simp [arrD]
theorem arrD_getE {ds : List Int} {e : Int} {n : Nat} {h : ds.length < (arrD ds e n).length} : (arrD ds e n)[ds.length] = encI e := (List.getElem?_eq_some_iff.1 arrD_get).2
theorem arrD_old {ds : List Int} {e : Int} {n i : Nat} {v : Int} (h : ds[i]? = some v) : (arrD ds e n)[i]? = some (encI v) := by
  have := (List.getElem?_eq_some_iff.1 h).1
  simp only [arrD, List.getElem?_map]
  rw [List.getElem?_append_left this, h]; rfl
theorem arrD_set {ds : List Int} {e w : Int} {n : Nat} : (arrD ds e n).set ds.length [.int .i64 w] = arrD ds w n := by
  simp only [arrD]
  rw [show [AV.int .i64 w] = encI w from rfl, ← List.map_set]
  simp
theorem arrD_next {ds : List Int} {e : Int} {n : Nat} : arrD ds e (n + 1) = arrD (ds ++ [e]) 0 n := by simp [arrD, List.replicate_succ]

set_option maxRecDepth 20000 in
theorem impl_PS (xs : List Stp) (hlim : xs.length ≤ LIM) : PS Try.prog 9 [.sl 6 (xs.map encStp)] (.int .i64 (depthGo [] 0 xs)) := by
  refine PS.mk' (Φ := [e22]) 200 ok9 rfl (by simp) (by simp) fun fn hres => ?_
  simp [c9]
  intro hb
  refine ⟨by simp only [LIM] at *; omega, fun _ => ?_⟩
  refine AW.loop (S := fun p : List Int × Int => ⟨[(3, .ms 0 1 0 xs.length), (4, .int .i64 p.2), (12, .sl 6 (xs.map encStp)), (13, .int .i64 xs.length), (14, .int .i64 p.1.length)],
      [.arr 1 ((p.1 ++ List.replicate (xs.length - p.1.length) 0).map encI)]⟩)
    (ok := fun p => p.1.length ≤ xs.length ∧ (∀ d ∈ p.1, 0 ≤ d ∧ d ≤ p.1.length) ∧ depthGo p.1 p.2 (xs.drop p.1.length) = depthGo [] 0 xs) (μ := fun p => xs.length - p.1.length)
    ([], 0) (by simp) (fun _ h => ?_) ?_
  · simpa [encI] using h
  rintro ⟨ds, best⟩ ⟨hi, hds, heq⟩ next
  simp only at hi hds heq
  rcases lt_or_end xs ds.length hi with ⟨x, hx⟩ | he
  · have hlt := at_lt hx
    rw [drop_at hx] at heq
    have hR : (ds ++ List.replicate (xs.length - ds.length) 0).map encI = arrD ds 0 (xs.length - (ds.length + 1)) := by
      rw [arrD, show xs.length - ds.length = (xs.length - (ds.length + 1)) + 1 by omega, List.replicate_succ]
    refine vc_go [e22] [.t 2] 60 ok9.mix hres ?_
    simp [hlt, nth_of hx, hR]
    intro hb2
    generalize hN : xs.length - (ds.length + 1) = N
    have hlen : xs.length = ds.length + N + 1 := by omega
    refine AW.loop (S := fun p : Nat × Int => ⟨[(3, .ms 0 1 0 xs.length), (4, .int .i64 best), (5, .int .i64 ds.length), (12, .sl 6 (xs.map encStp)), (13, .int .i64 xs.length), (14, .int .i64 ds.length), (20, .sl 1 (x.after.map encI)),
        (21, .int .i64 x.after.length), (22, .int .i64 p.1)], [.arr 1 (arrD ds p.2 N), .arr 6 [encStp x]]⟩)
      (ok := fun p => p.1 ≤ x.after.length ∧ 0 ≤ p.2 ∧ p.2 ≤ ds.length ∧ stepD ds (x.after.drop p.1) (p.2 + 1) = stepD ds x.after 1) (μ := fun p => x.after.length - p.1) (0, 0) ⟨by simp, by simp, by simp, rfl⟩ (fun _ h => h) ?_
    rintro ⟨j, d⟩ ⟨hj, hd1, hd2, heq2⟩ next2
    simp only at hj hd1 hd2 heq2
    rcases lt_or_end x.after j hj with ⟨a, ha⟩ | he
    · have hjlt := at_lt ha
      rw [drop_at ha] at heq2
      simp only [stepD] at heq2
      clear next
      by_cases hin : 0 ≤ a ∧ a < ds.length
      · obtain ⟨v, hv⟩ : ∃ v, ds[a.toNat]? = some v := ⟨_, List.getElem?_eq_getElem (by omega)⟩
        have hvd : ds.getD a.toNat 0 = v := by simp [List.getD, hv]
        have hv2 := hds v (List.mem_of_getElem? hv)
        rw [hvd] at heq2
        have hin2 : a ≤ (ds.length : Int) - 1 := by omega
        have hin3 : a < (ds.length : Int) + N + 1 := by omega
        have g1 := arrD_old (e := d) (n := N) hv
        have g2 : ∀ h, (arrD ds d N)[a.toNat]'h = encI v := fun h => (List.getElem?_eq_some_iff.1 g1).2
        refine vc_go [e22] [.t 2] 60 ok9.mix hres ?_
        simp [hlt, nth_of hx, hjlt, nth_of ha, hin, hin2, hin3, arrD_get, arrD_getE, g1, g2, arrD_set, AV.isCell]
        intro _ _
        simp only [BIG_eqN] at hb hb2
        refine ⟨by omega, by omega, by omega, next2 (j + 1, max d v) ⟨hjlt, by simp; omega, by simp; omega, ?_⟩ (by simp; omega)⟩
        rw [← heq2]
        congr 1
        simp only [Int.max_def]
        (repeat' split) <;> omega
      · refine vc_go [e22] [.t 2] 60 ok9.mix hres ?_
        have hin3 : ¬ (0 ≤ a ∧ a ≤ (ds.length : Int) - 1) := by omega
        simp [hjlt, nth_of ha]
        intro _ _
        simp only [BIG_eqN] at hb hb2
        refine ⟨by omega, fun g1 g2 => absurd ⟨g1, g2⟩ hin3, fun _ => ⟨by omega, next2 (j + 1, d) ⟨hjlt, hd1, hd2, ?_⟩ (by simp; omega)⟩⟩
        rw [if_neg (by omega)] at heq2; exact heq2
    · refine vc_go [e22] [.t 2] 60 ok9.mix hres ?_
      subst he
      simp only [List.drop_length, stepD] at heq2
      simp [hlt, arrD_get, arrD_getE, arrD_set, AV.isCell]
      intro _ _
      simp only [depthGo] at heq
      rw [← heq2] at heq
      have nx := next (ds ++ [d + 1], max best (d + 1)) ⟨by simp; omega, fun d' hd' => by
        simp only [List.mem_append, List.mem_singleton] at hd'
        rcases hd' with h | rfl
        · have := hds d' h; simp; omega
        · simp; omega, by
          simp only [List.length_append, List.length_singleton]
          rw [← heq]
          congr 1
          simp only [Int.max_def]
          (repeat' split) <;> omega⟩ (by simp; omega)
      simp only [BIG_eqN] at hb
      refine ⟨by omega, fun _ _ => ⟨by omega, ?_⟩⟩
      refine AW.sub (st' := ⟨[(3, .ms 0 1 0 xs.length), (4, .int .i64 (max best (d + 1))), (12, .sl 6 (xs.map encStp)), (13, .int .i64 xs.length), (14, .int .i64 (ds.length + 1))], [.arr 1 (arrD ds (d + 1) N)]⟩) ?_ rfl ?_ (Nat.zero_le _) ?_
      · intro p hp
        simp only [List.mem_cons, List.not_mem_nil, or_false] at hp
        rcases hp with rfl | rfl | rfl | rfl | rfl <;> simp [AV.bel]
      · intro e he
        simp only [List.mem_singleton] at he
        subst he
        intro r hr c hc
        simp only [arrD, List.mem_map] at hr
        obtain ⟨z, _, rfl⟩ := hr
        simp only [encI, List.mem_singleton] at hc
        subst hc
        simp [AV.bel]
      · have e1 : ((ds ++ [d + 1]) ++ List.replicate (xs.length - (ds ++ [d + 1]).length) 0).map encI = arrD ds (d + 1) N := by
          simp only [arrD, List.length_append, List.length_singleton, hN, List.append_assoc, List.singleton_append]
        simp only [e1] at nx
        simp only [List.length_append, List.length_singleton, Int.natCast_add, Int.natCast_one] at nx
        exact nx
  · refine vc_go [e22] [.t 2] 60 ok9.mix hres ?_
    rw [he] at heq
    simp [he, tupOf]
    simpa [depthGo] using heq
end Go.Fw
