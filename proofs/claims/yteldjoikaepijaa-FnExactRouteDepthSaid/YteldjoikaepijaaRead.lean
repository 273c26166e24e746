/- What came in reads as data: then it is represented. -/
import Derived.Test.YteldjoikaepijaaTop
namespace Go.Fw
open Go Go.RowKit

theorem maxLen_eq : maxLen = BIG := by unfold maxLen BIG; rfl

/-- The cells `vs` are those of `cs`. -/
def CR' (W : World) (cs : List AV) (vs : List Value) : Prop :=
  vs.length = cs.length ∧ (∀ c ∈ cs, c.isCell = true) ∧ ∀ (i : Nat) c v, cs[i]? = some c → vs[i]? = some v → Rep (heapOf W) [] c v

section
variable {H : Type} {enc : TypeId × Value → H} {P : Program} {W : World} {sp : Nat → Bool} {held : Bool}

/-- Whatever reads at the type `t` is the data `e x` of some `x`. -/
def Reads (enc : TypeId × Value → H) (P : Program) (W : World) (sp : Nat → Bool) (held : Bool) (fuel : Nat) (t : TypeId) {α : Type} (e : α → List AV) : Prop :=
  ∀ cs d ps, DataW.trod enc P W 0 sp held fuel t cs = some (d, ps) → ∃ x, CR' W (e x) cs

theorem CR'.one {c : AV} {v : Value} (hc : c.isCell = true) (h : Rep (heapOf W) [] c v) : CR' W [c] [v] :=
  ⟨rfl, by simpa using hc, fun i c' v' h1 h2 => by
    cases i with
    | zero => simp at h1 h2; subst h1; subst h2; exact h
    | succ i => simp at h1⟩

theorem reads_zero {t : TypeId} {α : Type} {e : α → List AV} : Reads enc P W sp held 0 t e := fun cs d ps h => by simp [DataW.trod] at h

theorem reads_str {t : TypeId} (ht : P.underlying t = some .string) (fuel : Nat) : Reads enc P W sp held fuel t encS := by
  intro cs d ps h
  cases fuel with
  | zero => simp [DataW.trod] at h
  | succ fuel =>
    unfold DataW.trod at h
    rw [ht] at h
    match cs, h with
    | [.string s], h =>
      simp only [] at h
      split at h
      · rename_i hs
        refine ⟨s.data.toList, .one rfl ?_⟩
        have : (.string s : Value) = .string ⟨s.data.toList.toArray⟩ := by cases s; simp
        rw [this]
        exact .str (by rw [← maxLen_eq]; simpa only [ByteArray.size, Array.length_toList] using hs)
      · cases h

theorem reads_bool {t : TypeId} (ht : P.underlying t = some .bool) (fuel : Nat) : Reads enc P W sp held fuel t (fun b : Bool => [.bool b]) := by
  intro cs d ps h
  cases fuel with
  | zero => simp [DataW.trod] at h
  | succ fuel =>
    unfold DataW.trod at h
    rw [ht] at h
    match cs, h with
    | [.bool b], h => exact ⟨b, .one rfl .bool⟩

theorem reads_int {t : TypeId} (ht : P.underlying t = some (.int .i64)) (fuel : Nat) : Reads enc P W sp held fuel t encI := by
  intro cs d ps h
  cases fuel with
  | zero => simp [DataW.trod] at h
  | succ fuel =>
    unfold DataW.trod at h
    rw [ht] at h
    match cs, h with
    | [.int k n], h =>
      simp only [] at h
      split at h
      · rename_i hs
        obtain ⟨rfl, hs⟩ := hs
        refine ⟨n, .one rfl (.int ?_)⟩
        simpa [Lit.wf] using hs
      · cases h

theorem mapM_some {α β : Type} {f : α → Option β} : ∀ {l : List α} {r : List β}, l.mapM f = some r → r.length = l.length ∧ ∀ (i : Nat) x, l[i]? = some x → ∃ y, f x = some y ∧ r[i]? = some y
  | [], r, h => by simp at h; subst h; simp
  | a :: l, r, h => by
    simp only [List.mapM_cons, Option.bind_eq_bind, Option.bind_eq_some_iff, Option.pure_def, Option.some.injEq] at h
    obtain ⟨y, hy, ys, hys, rfl⟩ := h
    obtain ⟨g1, g2⟩ := mapM_some hys
    refine ⟨by simp [g1], fun i x hi => ?_⟩
    cases i with
    | zero => simp at hi; subst hi; exact ⟨y, hy, rfl⟩
    | succ i => simpa using g2 i x (by simpa using hi)

theorem exists_listA {α : Type} {p : Nat → α → Prop} : ∀ (n : Nat), (∀ j, j < n → ∃ v, p j v) → ∃ vs : List α, vs.length = n ∧ ∀ (j : Nat) v, vs[j]? = some v → p j v
  | 0, _ => ⟨[], rfl, fun j v h => by simp at h⟩
  | n + 1, h => by
    obtain ⟨vs, h1, h2⟩ := exists_listA n fun j hj => h j (by omega)
    obtain ⟨x, hx⟩ := h n (by omega)
    refine ⟨vs ++ [x], by simp [h1], fun j v hj => ?_⟩
    rcases Nat.lt_trichotomy j n with hlt | rfl | hgt
    · rw [List.getElem?_append_left (by omega)] at hj; exact h2 j v hj
    · rw [List.getElem?_append_right (by omega), h1] at hj
      simp at hj; subst hj; exact hx
    · rw [List.getElem?_eq_none (by simp; omega)] at hj; cases hj

theorem cells_get {a : Addr} {n : Nat} {vs : List Value} (h : W.cells? 0 a n = some vs) : vs.length = n ∧ ∀ j, j < n → ∃ v, vs[j]? = some v ∧ W.cell? (a.add j) = some v := by
  unfold World.cells? at h
  rw [if_pos (Nat.zero_le _)] at h
  obtain ⟨g1, g2⟩ := mapM_some h
  refine ⟨by simpa using g1, fun j hj => ?_⟩
  obtain ⟨y, h1, h2⟩ := g2 j j (by simp [hj])
  exact ⟨y, h2, h1⟩

theorem cell_block {a : Addr} {v : Value} (h : W.cell? a = some v) : a.spot = none ∧ ∃ c elem fz, W.heap[a.block]? = some (.cells c elem fz) ∧ c[a.off]? = some v := by
  unfold World.cell? at h
  split at h
  · rename_i c elem fz hb
    split at h
    · cases h
    · rename_i hs
      exact ⟨by simpa using hs, c, elem, fz, hb, h⟩
  · cases h

/-- A slice, if its elements read. -/
theorem reads_slice {t te : TypeId} {α : Type} {e : α → List AV} {es : Nat} (ht : P.underlying t = some (.slice te)) (hes : P.cellsOf te = es) (hlen : ∀ x, (e x).length = es) (hpos : 0 < es) (fuel : Nat)
    (he : Reads enc P W sp held fuel te e) : Reads enc P W sp held (fuel + 1) t (fun xs : List α => [.sl es (xs.map e)]) := by
  intro cs d ps h
  unfold DataW.trod at h
  rw [ht] at h
  match cs, h with
  | [.slice none 0 0], h =>
    exact ⟨[], .one rfl (.sl 0 0 #[] (fun _ _ => undef) rfl (Nat.le_refl _) (Nat.zero_le _) (by simp) (by simp) (by simp) (by simp) (by simp))⟩
  | [.slice (some a) len cap], h =>
    simp only [hes] at h
    split at h
    · rename_i hb
      rw [Option.bind_eq_some_iff] at h
      obtain ⟨elems, h1, h2⟩ := h
      obtain ⟨g1, g2⟩ := mapM_some h1
      have el : ∀ i, i < len → ∃ x vs, W.cells? 0 (a.add (i * es)) es = some vs ∧ CR' W (e x) vs := by
        intro i hi
        obtain ⟨y, hy, _⟩ := g2 i i (by simp [hi])
        rw [Option.bind_eq_some_iff] at hy
        obtain ⟨vs, hv, hr⟩ := hy
        obtain ⟨x, hx⟩ := he vs y.1 y.2 hr
        exact ⟨x, vs, hv, hx⟩
      obtain ⟨hb0, hlc, hcm⟩ := hb
      obtain ⟨xs, x1, x2⟩ := exists_listA (p := fun i x => ∃ vs, W.cells? 0 (a.add (i * es)) es = some vs ∧ CR' W (e x) vs) len el
      refine ⟨xs, .one rfl ?_⟩
      have hlenBIG : len ≤ BIG := by rw [← maxLen_eq]; omega
      by_cases h0 : len = 0
      · subst h0
        obtain rfl : xs = [] := List.length_eq_zero_iff.1 x1
        exact .sl 0 0 #[] (fun _ _ => undef) rfl (Nat.zero_le _) (Nat.zero_le _) (by simp) (by simp) (by simp) (by simp) (by simp)
      · obtain ⟨x0, vs0, c0, _⟩ := el 0 (by omega)
        obtain ⟨_, cg⟩ := cells_get c0
        obtain ⟨v0, _, hc0⟩ := cg 0 hpos
        have ha0 : (a.add (0 * es)).add 0 = a := by simp [Addr.add]
        rw [ha0] at hc0
        obtain ⟨hspot, c, elem, fz, hblk, _⟩ := cell_block hc0
        obtain ⟨b, o, sp'⟩ := a
        simp only at hspot hblk
        subst hspot
        have cell : ∀ i, i < len → ∀ x, xs[i]? = some x → ∀ j, j < es → ∃ v, c[o + i * es + j]? = some v ∧ ∀ cc, (e x)[j]? = some cc → Rep (heapOf W) [] cc v := by
          intro i hi x hx j hj
          obtain ⟨vs, hv, hcr⟩ := x2 i x hx
          obtain ⟨_, cg⟩ := cells_get hv
          obtain ⟨v, hvj, hcell⟩ := cg j hj
          rw [addr_add, addr_add] at hcell
          obtain ⟨_, c', elem', fz', hb', hcv⟩ := cell_block hcell
          simp only at hb' hcv
          rw [hblk] at hb'
          cases hb'
          exact ⟨v, hcv, fun cc hcc => hcr.2.2 j cc v hcc hvj⟩
        refine .sl b o c (fun i j => c.getD (o + i * es + j) undef) (by simp [x1]) hlc hlenBIG (fun r hr => ?_) (fun _ => ⟨rfl, elem, fz, hblk⟩) (fun i j hi hj => ?_) (fun r hr cc hcc => ?_) (fun i r j cc hi hj => ?_)
        · obtain ⟨x, _, rfl⟩ := List.mem_map.1 hr; exact hlen x
        · simp only [List.length_map] at hi
          obtain ⟨v, hv, _⟩ := cell i (by omega) xs[i] (List.getElem?_eq_getElem hi) j hj
          simp [hv]
        · obtain ⟨x, hx, rfl⟩ := List.mem_map.1 hr
          obtain ⟨i, hi⟩ := List.getElem?_of_mem hx
          obtain ⟨vs, _, hcr⟩ := x2 i x hi
          exact hcr.2.1 cc hcc
        · rw [List.getElem?_map, Option.map_eq_some_iff] at hi
          obtain ⟨x, hx, rfl⟩ := hi
          have hilt := (List.getElem?_eq_some_iff.1 hx).1
          have hjlt := (List.getElem?_eq_some_iff.1 hj).1
          rw [hlen] at hjlt
          obtain ⟨v, hv, hrep⟩ := cell i (by omega) x hx j hjlt
          simp only [Array.getD_eq_getD_getElem?, hv, Option.getD_some]
          exact hrep cc hj
    · cases h
/-- The parts of a struct, one behind another. -/
def PartsOk (W : World) (cs : List Value) : Nat → List (List AV) → Prop
  | _, [] => True
  | o, p :: ps => CR' W p ((cs.drop o).take p.length) ∧ PartsOk W cs (o + p.length) ps

theorem CR'.append {a b : List AV} {vs : List Value} (ha : CR' W a (vs.take a.length)) (hb : CR' W b (vs.drop a.length)) : CR' W (a ++ b) vs := by
  obtain ⟨a1, a2, a3⟩ := ha
  obtain ⟨b1, b2, b3⟩ := hb
  simp only [List.length_take, List.length_drop] at a1 b1
  refine ⟨by simp; omega, fun c hc => ?_, fun i c v hc hv => ?_⟩
  · rcases List.mem_append.1 hc with h | h
    · exact a2 c h
    · exact b2 c h
  · rcases Nat.lt_or_ge i a.length with h | h
    · rw [List.getElem?_append_left h] at hc
      exact a3 i c v hc (by rw [List.getElem?_take, if_pos h]; exact hv)
    · rw [List.getElem?_append_right h] at hc
      exact b3 (i - a.length) c v hc (by rw [List.getElem?_drop, show a.length + (i - a.length) = i by omega]; exact hv)

theorem PartsOk.all {cs : List Value} : ∀ (ps : List (List AV)) (o : Nat), PartsOk W cs o ps → cs.length = o + ps.flatten.length → CR' W ps.flatten (cs.drop o)
  | [], o, _, hl => by
    simp only [List.flatten_nil, List.length_nil, Nat.add_zero] at hl ⊢
    rw [← hl, List.drop_length]
    exact ⟨rfl, by simp, fun i c v h => by simp at h⟩
  | p :: ps, o, h, hl => by
    simp only [List.flatten_cons, List.length_append] at hl ⊢
    refine CR'.append h.1 ?_
    rw [List.drop_drop]
    exact PartsOk.all ps (o + p.length) h.2 (by omega)

theorem reads_struct {t : TypeId} {fs : Array Go.Field} (ht : P.underlying t = some (.struct fs)) (fuel : Nat) {α : Type} {e : α → List AV}
    (h : ∀ cs, cs.length = P.cellsOf t → (∀ (i : Nat) f, fs[i]? = some f → ∃ d ps, DataW.trod enc P W 0 sp held fuel f.type ((cs.drop f.offset).take (P.cellsOf f.type)) = some (d, ps)) → ∃ x, CR' W (e x) cs) :
    Reads enc P W sp held (fuel + 1) t e := by
  intro cs d ps hh
  unfold DataW.trod at hh
  rw [ht] at hh
  simp only [] at hh
  split at hh
  · rename_i hl
    rw [Option.map_eq_some_iff] at hh
    obtain ⟨ys, hy, _⟩ := hh
    obtain ⟨_, g2⟩ := mapM_some hy
    refine h cs hl fun i f hf => ?_
    obtain ⟨y, h1, _⟩ := g2 i f (by simpa using hf)
    exact ⟨y.1, y.2, h1⟩
  · cases hh

end
end Go.Fw
