/- The compact operations stand for the model's, third part: stores, literals, slices. -/
import Derived.Test.YteldjoikaepijaaFw6
import Derived.Laws.BytesString
namespace Go.Fw
open Go

/-- 'vs' over 'cur' from place 'p' on. -/
def splice (cur : Array Value) (p : Nat) (vs : List Value) : Array Value := (cur.toList.take p ++ vs ++ cur.toList.drop (p + vs.length)).toArray

theorem splice_size {cur : Array Value} {p : Nat} {vs : List Value} (h : p + vs.length ≤ cur.size) : (splice cur p vs).size = cur.size := by
  simp [splice]; omega

theorem splice_get {cur : Array Value} {p : Nat} {vs : List Value} (h : p + vs.length ≤ cur.size) (j : Nat) :
    (splice cur p vs)[j]? = if j < p then cur[j]? else if j < p + vs.length then vs[j - p]? else cur[j]? := by
  simp only [splice, List.getElem?_toArray, List.append_assoc]
  rw [List.getElem?_append]
  have hl : (cur.toList.take p).length = p := by simp; omega
  rw [hl]
  split
  · rename_i hj; rw [List.getElem?_take]; simp [hj]
  · rw [List.getElem?_append]
    split
    · rename_i h1 h2
      rw [if_pos (by omega)]
    · rename_i h1 h2
      rw [if_neg (by omega), List.getElem?_drop]
      have : p + vs.length + (j - p - vs.length) = j := by omega
      rw [this]; simp

theorem setO_setO (w : World) (b : Nat) (o o' : Obj) : setO (setO w b o) b o' = setO w b o' := by
  simp [setO, Array.setIfInBounds_setIfInBounds]

theorem setCell_setO {w : World} {b i : Nat} {cur : Array Value} {t : TypeId} {fr : Nat × Nat} {v : Value} (hb : w.heap[b]? = some (.cells cur t fr)) :
    w.setCell ⟨b, i, none⟩ v = setO w b (.cells (cur.setIfInBounds i v) t fr) := by
  have hlt := heap_lt hb
  unfold World.setCell setO
  congr 1
  apply Array.ext_getElem?
  intro k
  by_cases hk : b = k
  · subst hk; rw [Array.getElem?_modify, if_pos rfl, hb]; simp [hlt]
  · simp [Array.getElem?_modify, Array.getElem?_setIfInBounds_ne hk, hk]

theorem setO_self {w : World} {b : Nat} {o : Obj} (hb : w.heap[b]? = some o) : setO w b o = w := by
  have hlt := heap_lt hb
  cases w with
  | mk heap tape drawn os output =>
    simp only [setO]
    congr 1
    apply Array.ext_getElem?
    intro k
    by_cases hk : b = k
    · subst hk; rw [hb]; simp [show b < heap.size from hlt]
    · simp [Array.getElem?_setIfInBounds_ne hk]

theorem run_storeCells_at {P : Program} (b : Nat) (t : TypeId) : ∀ (vs : List Value) (p i : Nat) (cur : Array Value) (w : World), w.heap[b]? = some (.cells cur t (0, 0)) →
    p + i + vs.length ≤ cur.size → (∀ v ∈ vs, v.oneCell' = true) →
    (storeCells ⟨b, p, none⟩ vs i).run P w = .ok () (setO w b (.cells (splice cur (p + i) vs) t (0, 0)))
  | [], p, i, cur, w, hb, _, _ => by
    have : splice cur (p + i) [] = cur := by
      apply Array.ext'
      simp [splice]
    rw [this, setO_self hb]
    rfl
  | v :: rest, p, i, cur, w, hb, hl, h1 => by
    have hi : p + i < cur.size := by simp at hl; omega
    have hcell : w.cell? ⟨b, p + i, none⟩ = some cur[p + i] := by simp [World.cell?, hb, hi]
    have hfro : w.frozen? ⟨b, p + i, none⟩ = false := by simp [World.frozen?, hb]
    have hst : (store ((⟨b, p, none⟩ : Addr).add i) v).run P w = .ok () (setO w b (.cells (cur.setIfInBounds (p + i) v) t (0, 0))) := by
      rw [addr_add, run_store P w _ v _ (h1 v (by simp)), hcell]
      simp [hfro, setCell_setO hb]
    have ih := run_storeCells_at (P := P) b t rest p (i + 1) (cur.setIfInBounds (p + i) v) (setO w b (.cells (cur.setIfInBounds (p + i) v) t (0, 0))) (setO_same (heap_lt hb))
      (by simp at hl ⊢; omega) (fun x hx => h1 x (by simp [hx]))
    simp only [storeCells, Sem.run_bind, hst, Result.andThen_ok, ih, setO_setO]
    congr 3
    apply Array.ext_getElem?
    intro k
    rw [splice_get (by simp at hl ⊢; omega), splice_get hl]
    simp only [List.length_cons, Array.getElem?_setIfInBounds]
    simp at hl
    by_cases hk : k < p + i
    · simp [hk, show k < p + (i + 1) by omega, show p + i ≠ k by omega]
    · by_cases hk2 : k = p + i
      · subst hk2
        simp [show p + i < p + (i + 1) by omega, hi]
      · by_cases hk3 : k < p + i + (rest.length + 1)
        · simp [hk, show ¬ k < p + (i + 1) by omega, hk3, show k < p + (i + 1) + rest.length by omega, show k - (p + i) = (k - (p + (i + 1))) + 1 by omega]
        · simp [hk, show ¬ k < p + (i + 1) by omega, hk3, show ¬ k < p + (i + 1) + rest.length by omega, show p + i ≠ k by omega]

section
variable {P : Program} {H : Hp} {F : Fr} {β : Bt} {N : Nat} {st : St} {a : Act} {w : World} {o : Oper}

theorem row_lt {i j es r off n : Nat} (hj : j < es) (hne : i ≠ r) (hn : off + n ≤ es) : i * es + j < r * es + off ∨ r * es + off + n ≤ i * es + j := by
  rcases Nat.lt_or_gt_of_ne hne with h | h
  · left
    have : (i + 1) * es ≤ r * es := Nat.mul_le_mul_right _ h
    rw [Nat.add_mul] at this; omega
  · right
    have : (r + 1) * es ≤ i * es := Nat.mul_le_mul_right _ h
    rw [Nat.add_mul] at this; omega

theorem row_room {r es cap n off : Nat} (hr : r < cap) (hn : off + n ≤ es) : r * es + off + n ≤ cap * es := by
  have : (r + 1) * es ≤ cap * es := Nat.mul_le_mul_right _ hr
  rw [Nat.add_mul] at this; omega

theorem snd_store {x d : Ar} {y z : Operand} {t : TypeId} {n i r off es : Nat} {rows : List (List AV)} {row : List AV} (h : Rel H F β N st a w) (hd : chkAr d z = true) (hc : chkAr x y = true)
    (ho : o.op = .store t z y) (hz : szB P t = some n) (hx : ar st.env d = .mp i r off) (hi : st.mem[i]? = some (.arr es rows)) (hr : rows[r]? = some row)
    (hs : (ar st.env x).cells.length = n ∧ ((ar st.env x).cells.all AV.isCell) = true ∧ off + n ≤ row.length) :
    Good P H F β o a w .junk (st.mem.set i (.arr es (rows.set r (row.take off ++ (ar st.env x).cells ++ row.drop (off + n))))) := by
  obtain ⟨hs1, hs2, hs3⟩ := hs
  have rx := h.ar hc
  have hcell : ∀ c ∈ (ar st.env x).cells, c.isCell = true := fun c hc => List.all_eq_true.1 hs2 c hc
  obtain ⟨h1, h2, h3⟩ := rx.cells hcell
  have rp := h.ar hd
  rw [hx] at rp
  generalize he : a.eval z = av at rp
  generalize hxs : (ar st.env x).cells = cs at *
  cases rp with
  | @mp _ _ _ _ b es' capT hβ =>
    obtain ⟨rfl, cells, elem, g2, g3, g4, g5, g6⟩ := Sat.row h.sat hi hr hβ
    have hrlt : r < rows.length := (List.getElem?_eq_some_iff.1 hr).1
    have hroom : r * es' + off + (a.eval y).cells.toList.length ≤ cells.size := by
      have := row_room (r := r) (es := es') (cap := capT) (n := n) (off := off) (by omega) (by omega)
      simp; omega
    have hlen : (a.eval y).cells.toList.length = n := by simp; omega
    have hst := run_storeCells_at (P := P) b elem (a.eval y).cells.toList (r * es' + off) 0 cells w g2 (by simpa using hroom) h2
    simp only [Nat.add_zero] at hst
    refine ⟨undef, _, H, β, .inr ⟨?_, rfl⟩, .refl _ _, .refl _, .junk, h.sat.rewrite hi hβ (cells := splice cells (r * es' + off) (a.eval y).cells.toList) (elem := elem) ?_ (by simpa using g4) ?_ ?_ ?_⟩
    · simp [execOp, ho, he, Instr.storeAt, Instr.sureAddr, storeVar, run_size hz, h1, hs1, hst]
    · rw [splice_size hroom]; exact g3
    · intro q hq
      rcases List.mem_or_eq_of_mem_set hq with hq | rfl
      · exact (h.sat.ent i _ _ hi hβ).2.choose_spec.choose_spec.2.2.2.1 q hq
      · simp; omega
    · intro q hq
      rcases List.mem_or_eq_of_mem_set hq with hq | rfl
      · exact (h.sat.ent i _ _ hi hβ).2.choose_spec.choose_spec.2.2.2.2.1 q hq
      · intro c hc
        simp only [List.mem_append] at hc
        rcases hc with (hc | hc) | hc
        · obtain ⟨k, hk, rfl⟩ := List.getElem_of_mem (List.mem_of_mem_take hc)
          exact (g6 k _ (List.getElem?_eq_getElem hk)).1
        · exact hcell c hc
        · obtain ⟨k, hk, rfl⟩ := List.getElem_of_mem (List.mem_of_mem_drop hc)
          exact (g6 k _ (List.getElem?_eq_getElem hk)).1
    · intro q r' j c hq hj
      rw [List.getElem?_set] at hq
      by_cases hqr : r = q
      · subst hqr
        simp [hrlt] at hq
        subst hq
        rw [splice_get hroom, hlen]
        rw [List.getElem?_append] at hj
        have hl1 : (row.take off).length = off := by simp; omega
        rw [hl1] at hj
        split at hj
        · rename_i hjo
          rw [List.getElem?_take] at hj
          simp [hjo] at hj
          obtain ⟨_, v, hv, hrep⟩ := g6 j c hj
          exact ⟨v, by rw [if_pos (by omega)]; exact hv, hrep⟩
        · rename_i hjo
          rw [List.getElem?_append] at hj
          split at hj
          · rename_i hjn
            have hv : j - off < (a.eval y).cells.size := by omega
            refine ⟨(a.eval y).cells[j - off], ?_, h3 _ _ _ hj (Array.getElem?_eq_getElem hv)⟩
            rw [if_neg (by omega), if_pos (by omega), show r * es' + j - (r * es' + off) = j - off by omega]
            simp [hv]
          · rename_i hjn
            rw [List.getElem?_drop] at hj
            rw [show off + n + (j - off - cs.length) = j by omega] at hj
            obtain ⟨_, v, hv, hrep⟩ := g6 j c hj
            exact ⟨v, by rw [if_neg (by omega), if_neg (by omega)]; exact hv, hrep⟩
      · rw [if_neg hqr] at hq
        obtain ⟨_, cells', elem', e1, _, _, e4, _, e6⟩ := h.sat.ent i _ _ hi hβ
        rw [g2] at e1; cases e1
        obtain ⟨v, hv, hrep⟩ := e6 q r' j c hq hj
        have hjl : j < es' := by
          have := e4 r' (List.mem_of_getElem? hq)
          have := (List.getElem?_eq_some_iff.1 hj).1; omega
        refine ⟨v, ?_, hrep⟩
        rw [splice_get hroom, hlen]
        rcases row_lt (i := q) (j := j) (es := es') (r := r) (off := off) (n := n) hjl (Ne.symm hqr) (by omega) with hlt | hge
        · rw [if_pos hlt]; exact hv
        · rw [if_neg (by omega), if_neg (by omega)]; exact hv

/-! ### Literals -/

theorem foldl_set (vs : List Value) : ∀ (s : Nat) (cur : Array Value) (off k : Nat),
    ((vs.zipIdx s).foldl (fun cs (x : Value × Nat) => cs.setIfInBounds (off + x.2) x.1) cur)[k]? =
      if off + s ≤ k ∧ k < off + s + vs.length ∧ k < cur.size then vs[k - (off + s)]? else cur[k]? := by
  induction vs with
  | nil => intro s cur off k; simp; intro h1 h2; omega
  | cons v vs ih =>
    intro s cur off k
    simp only [List.zipIdx_cons, List.foldl_cons, ih (s + 1), Array.size_setIfInBounds, List.length_cons]
    by_cases h1 : off + (s + 1) ≤ k ∧ k < off + (s + 1) + vs.length ∧ k < cur.size
    · rw [if_pos h1, if_pos (by omega), show k - (off + s) = (k - (off + (s + 1))) + 1 by omega]
      simp
    · rw [if_neg h1]
      by_cases h2 : k = off + s
      · subst h2
        by_cases h3 : off + s < cur.size
        · simp [h3]
        · simp [h3]
      · rw [Array.getElem?_setIfInBounds_ne (by omega), if_neg (by omega)]

theorem foldl_set_size (vs : List Value) : ∀ (s : Nat) (cur : Array Value) (off : Nat),
    ((vs.zipIdx s).foldl (fun cs (x : Value × Nat) => cs.setIfInBounds (off + x.2) x.1) cur).size = cur.size := by
  induction vs with
  | nil => intro s cur off; simp
  | cons v vs ih => intro s cur off; simp [List.zipIdx_cons, ih]

/-- What 'fill' does to cells that stand for abstract ones. -/
theorem fill_rep {place : Nat → Option (Nat × Nat)} : ∀ (ps : List (Nat × Value)) (qs : List (Nat × List AV)) (zs : List AV) (cells : Array Value),
    cells.size = zs.length → (∀ c ∈ zs, c.isCell = true) → (∀ (i : Nat) c v, zs[i]? = some c → cells[i]? = some v → Rep H β c v) →
    ps.length = qs.length →
    (∀ (k : Nat) p q, ps[k]? = some p → qs[k]? = some q → place p.1 = some (q.1, q.2.length) ∧ q.1 + q.2.length ≤ zs.length ∧ p.2.cells.size = q.2.length ∧ (∀ c ∈ q.2, c.isCell = true) ∧
      ∀ (i : Nat) c v, q.2[i]? = some c → p.2.cells[i]? = some v → Rep H β c v) →
    ∃ cells', Instr.fill place cells ps = some cells' ∧ cells'.size = (fillc zs qs).length ∧ (∀ c ∈ fillc zs qs, c.isCell = true) ∧
      ∀ (i : Nat) c v, (fillc zs qs)[i]? = some c → cells'[i]? = some v → Rep H β c v
  | [], [], zs, cells, h1, h2, h3, _, _ => ⟨cells, rfl, h1, h2, h3⟩
  | [], _ :: _, _, _, _, _, _, hl, _ => by simp at hl
  | _ :: _, [], _, _, _, _, _, hl, _ => by simp at hl
  | (i, v) :: ps, (off, cs) :: qs, zs, cells, h1, h2, h3, hl, h => by
    obtain ⟨g1, g2, g3, g4, g5⟩ := h 0 (i, v) (off, cs) rfl rfl
    simp only at g1 g2 g3 g4 g5
    have hlen : (zs.take off ++ cs ++ zs.drop (off + cs.length)).length = zs.length := by simp; omega
    have hget : ∀ k, (zs.take off ++ cs ++ zs.drop (off + cs.length))[k]? = if off ≤ k ∧ k < off + cs.length then cs[k - off]? else zs[k]? := by
      intro k
      rw [List.append_assoc, List.getElem?_append, show (zs.take off).length = off by simp; omega]
      split
      · rename_i hk; rw [List.getElem?_take, if_pos hk, if_neg (by omega)]
      · rw [List.getElem?_append]
        split
        · rename_i h5 h6; rw [if_pos (by omega)]
        · rename_i h5 h6
          rw [if_neg (by omega), List.getElem?_drop, show off + cs.length + (k - off - cs.length) = k by omega]
    obtain ⟨cells', e1, e2, e3, e4⟩ := fill_rep ps qs (zs.take off ++ cs ++ zs.drop (off + cs.length))
      (v.cells.zipIdx.foldl (fun cs (c, j) => cs.setIfInBounds (off + j) c) cells)
      (by
        have := foldl_set_size v.cells.toList 0 cells off
        rw [hlen, ← h1, ← Array.foldl_toList, Array.toList_zipIdx]
        exact this)
      (by
        intro c hc
        simp only [List.mem_append] at hc
        rcases hc with (hc | hc) | hc
        · exact h2 c (List.mem_of_mem_take hc)
        · exact g4 c hc
        · exact h2 c (List.mem_of_mem_drop hc))
      (by
        intro k c u hk hu
        have hf := foldl_set v.cells.toList 0 cells off k
        rw [← Array.foldl_toList, Array.toList_zipIdx] at hu
        rw [hf] at hu
        rw [hget] at hk
        by_cases hin : off ≤ k ∧ k < off + cs.length
        · rw [if_pos hin] at hk
          rw [if_pos (by simp; omega)] at hu
          exact g5 (k - off) c u hk (by simpa using hu)
        · rw [if_neg hin] at hk
          rw [if_neg (by simp; omega)] at hu
          exact h3 k c u hk hu)
      (by simpa using hl)
      (by
        intro k p q hp hq
        obtain ⟨f1, f2, f3⟩ := h (k + 1) p q (by simpa using hp) (by simpa using hq)
        exact ⟨f1, by rw [hlen]; exact f2, f3⟩)
    refine ⟨cells', ?_, e2, e3, e4⟩
    rw [Instr.fill, g1]
    simp only [g3]
    rw [if_neg (by simp; omega)]
    exact e1

theorem mapM_get {α γ : Type} {f : α → Option γ} : ∀ (l : List α) (r : List γ), l.mapM f = some r → ∀ (i : Nat) x, l[i]? = some x → ∃ y, f x = some y ∧ r[i]? = some y
  | [], _, _, i, x, hx => by simp at hx
  | z :: l, r, h, i, x, hx => by
    simp only [List.mapM_cons, Option.bind_eq_bind, Option.pure_def] at h
    cases hz : f z with
    | none => simp [hz] at h
    | some y =>
      cases hr : l.mapM f with
      | none => simp [hz, hr] at h
      | some r' =>
        simp [hz, hr] at h
        subst h
        cases i with
        | zero => simp at hx; subst hx; exact ⟨y, hz, rfl⟩
        | succ i => exact mapM_get l r' hr i x (by simpa using hx)

theorem chkParts_get {t : TypeId} {env : List (Nat × AV)} : ∀ (ps : List (Nat × Nat × Ar)) (qs : List (Nat × Operand)), chkParts P t ps qs = true →
    qs.length = ps.length ∧ ∀ (k : Nat) p q, ps[k]? = some p → qs[k]? = some q → ∃ t', fieldB P t q.1 = some (p.1, t') ∧ szB P t' = some p.2.1 ∧ chkAr p.2.2 q.2 = true
  | [], [], _ => ⟨rfl, by simp⟩
  | [], _ :: _, h => by simp [chkParts] at h
  | _ :: _, [], h => by simp [chkParts] at h
  | (o, s, x) :: r, (i, y) :: r', h => by
    simp only [chkParts, Bool.and_eq_true] at h
    obtain ⟨⟨h1, h2⟩, h3⟩ := h
    obtain ⟨h4, h5⟩ := chkParts_get (env := env) r r' h3
    refine ⟨by simp [h4], fun k p q hp hq => ?_⟩
    cases k with
    | zero =>
      simp at hp hq; subst hp; subst hq
      split at h1
      · rename_i o' t' hf
        simp at h1
        exact ⟨t', by rw [hf, h1.1], h1.2, h2⟩
      · cases h1
    | succ k => exact h5 k p q (by simpa using hp) (by simpa using hq)

theorem zero_of {t : TypeId} {zs : List AV} (hz : zeroOk P t zs = true) : ∃ i z, P.info? t = some i ∧ i.zero = some z ∧ constOkL zs z.cells.toList = true := by
  unfold zeroOk at hz
  cases hi : P.info? t with
  | none => simp [hi] at hz
  | some i =>
    cases hzz : i.zero with
    | none => simp [hi, hzz] at hz
    | some z => simp [hi, hzz] at hz; exact ⟨i, z, rfl, hzz, hz⟩

theorem snd_build {zs : List AV} {parts : List (Nat × Nat × Ar)} {t : TypeId} {ps : Array (Nat × Operand)} (h : Rel H F β N st a w) (hz : zeroOk P t zs = true) (hpl : (placesB P t).isSome = true)
    (hps : chkParts P t parts ps.toList = true) (ho : o.op = .build t ps)
    (hs : (parts.all fun (o, s, x) => (ar st.env x).cells.length == s && (ar st.env x).cells.all AV.isCell && decide (o + s ≤ zs.length)) = true) :
    Good P H F β o a w (.agg (fillc zs (parts.map fun (o, _, x) => (o, (ar st.env x).cells)))) st.mem := by
  obtain ⟨it, z, hi, hzz, hco⟩ := zero_of hz
  obtain ⟨z1, z2, z3⟩ := constOkL_rep H β zs z.cells.toList hco
  obtain ⟨hl, hget⟩ := chkParts_get (env := st.env) _ _ hps
  unfold placesB at hpl
  cases hu : P.underlying t with
  | none => simp [hu] at hpl
  | some d =>
    cases d <;> try (simp [hu] at hpl; done)
    rename_i fields
    simp only [hu] at hpl
    obtain ⟨places, hplaces⟩ := Option.isSome_iff_exists.1 hpl
    obtain ⟨cells', e1, e2, e3, e4⟩ := fill_rep (H := H) (β := β) (place := (places.toArray[·]?)) (ps.map fun (i, x) => (i, a.eval x)).toList (parts.map fun (o, _, x) => (o, (ar st.env x).cells)) zs z.cells
      (by simpa using z1.symm) z2 (fun i c v hc hv => z3 i c v hc (by simpa using hv)) (by simpa using hl)
      (by
        intro k p q hp hq
        simp only [Array.toList_map, List.getElem?_map, Option.map_eq_some_iff] at hp hq
        obtain ⟨⟨i, y⟩, hp, rfl⟩ := hp
        obtain ⟨⟨off, s, x⟩, hq, rfl⟩ := hq
        obtain ⟨t', f1, f2, f3⟩ := hget k _ _ hq hp
        simp only at f1 f2 f3
        have hall := List.all_eq_true.1 hs _ (List.mem_of_getElem? hq)
        simp only [Bool.and_eq_true, beq_iff_eq, decide_eq_true_eq] at hall
        obtain ⟨⟨a1, a2⟩, a3⟩ := hall
        have hcell : ∀ c ∈ (ar st.env x).cells, c.isCell = true := fun c hc => List.all_eq_true.1 a2 c hc
        obtain ⟨c1, c2, c3⟩ := (h.ar f3).cells hcell
        obtain ⟨fs, fd, g1, g2, g3, g4⟩ := field_of f1
        rw [hu] at g1; cases g1
        obtain ⟨pl, p1, p2⟩ := mapM_get _ _ hplaces i fd (by simpa using g2)
        unfold szB at f2
        rw [← g4] at f2
        cases hfi : P.info? fd.type with
        | none => simp [hfi] at f2
        | some ii =>
          simp [hfi] at f2 p1
          subst p1
          refine ⟨by simp [p2, g3, f2, a1], by simp; omega, c1, hcell, c3⟩)
    refine .same (x := .agg cells') h ?_ (.agg e2 e3 e4)
    have hb : P.built t (ps.map fun (i, x) => (i, a.eval x)).toList = some cells' := by
      unfold Program.built
      simp only [hi, hu, hzz, hplaces]
      exact e1
    simp [execOp, ho, run_build w t _ cells' hb]

theorem chkList_get : ∀ (ps : List Ar) (qs : List (Nat × Operand)) (n : Nat), chkList n ps qs = true →
    qs.length = ps.length ∧ ∀ (k : Nat) p q, ps[k]? = some p → qs[k]? = some q → q.1 = n + k ∧ chkAr p q.2 = true
  | [], [], _, _ => ⟨rfl, by simp⟩
  | [], _ :: _, _, h => by simp [chkList] at h
  | _ :: _, [], _, h => by simp [chkList] at h
  | x :: r, (i, y) :: r', n, h => by
    simp only [chkList, Bool.and_eq_true, beq_iff_eq] at h
    obtain ⟨⟨h1, h2⟩, h3⟩ := h
    obtain ⟨h4, h5⟩ := chkList_get r r' (n + 1) h3
    refine ⟨by simp [h4], fun k p q hp hq => ?_⟩
    cases k with
    | zero => simp at hp hq; subst hp; subst hq; exact ⟨by simp [h1], h2⟩
    | succ k =>
      obtain ⟨g1, g2⟩ := h5 k p q (by simpa using hp) (by simpa using hq)
      exact ⟨by omega, g2⟩

end
end Go.Fw
