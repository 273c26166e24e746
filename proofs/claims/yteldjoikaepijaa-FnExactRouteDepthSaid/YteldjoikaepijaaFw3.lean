/- What becomes of the owned blocks: allocation, stores, growth in place. -/
import Derived.Test.YteldjoikaepijaaFw2
namespace Go.Fw
open Go

def hset (H : Hp) (b : Nat) (o : Obj) : Hp := fun b' => if b' = b then some o else H b'

theorem HExt_hset {H : Hp} {b : Nat} {o : Obj} (h : H b = none) : HExt H (hset H b o) := by
  intro c x hx
  unfold hset
  split
  · rename_i e; subst e; rw [h] at hx; cases hx
  · exact hx

/-- 'H'' knows what 'H' knows, and nothing new of what is held fixed. -/
def HX (F : Fr) (H H' : Hp) : Prop := HExt H H' ∧ ∀ b o, H' b = some o → H b = some o ∨ F b = none
theorem HX.refl (F : Fr) (H : Hp) : HX F H H := ⟨.refl _, fun _ _ h => .inl h⟩
theorem HX.trans {F : Fr} {A B C : Hp} (h : HX F A B) (h' : HX F B C) : HX F A C :=
  ⟨h.1.trans h'.1, fun b o x => by rcases h'.2 b o x with y | y; exact h.2 b o y; exact .inr y⟩
theorem HX_hset {F : Fr} {H : Hp} {b : Nat} {o : Obj} (h : H b = none ∧ F b = none) : HX F H (hset H b o) := by
  refine ⟨HExt_hset h.1, fun c x hx => ?_⟩
  unfold hset at hx
  split at hx
  · rename_i e; subst e; exact .inr h.2
  · exact .inl hx

theorem heap_lt {w : World} {b : Nat} {o : Obj} (h : w.heap[b]? = some o) : b < w.heap.size := (Array.getElem?_eq_some_iff.1 h).1

section
variable {H H' : Hp} {F : Fr} {β β' : Bt} {mem : List Ent} {w w' : World}

theorem EntOk.mono {e : Ent} {x : Option (Nat × Nat × Nat)} (h : EntOk H β w e x) (hH : HExt H H') (hβ : BExt β β')
    (hw : ∀ b es cap, x = some (b, es, cap) → e.live = true → w'.heap[b]? = w.heap[b]?) : EntOk H' β' w' e x := by
  cases e with
  | dead => trivial
  | arr es rows =>
    cases x with
    | none => exact h
    | some x =>
      obtain ⟨b, es', cap⟩ := x
      obtain ⟨h1, cells, elem, h2, h3, h4, h5, h6, h7⟩ := h
      refine ⟨h1, cells, elem, ?_, h3, h4, h5, h6, fun i r j c hr hc => ?_⟩
      · rw [hw b es' cap rfl rfl]; exact h2
      · obtain ⟨v, hv, hrep⟩ := h7 i r j c hr hc
        exact ⟨v, hv, hrep.mono hH hβ⟩
  | mp es =>
    cases x with
    | none => exact h
    | some x =>
      obtain ⟨b, es', cap⟩ := x
      obtain ⟨ents, clock, h2, h3, h4⟩ := h
      refine ⟨ents, clock, ?_, h3, fun i k v e hi he => ?_⟩
      · rw [hw b es' cap rfl rfl]; exact h2
      · obtain ⟨r1, r2⟩ := h4 i k v e hi he
        exact ⟨r1.mono hH hβ, r2.mono hH hβ⟩

theorem EntOk.lt {e : Ent} {b es cap : Nat} (h : EntOk H β w e (some (b, es, cap))) (hl : e.live = true) : b < w.heap.size := by
  cases e with
  | dead => simp at hl
  | arr es rows => obtain ⟨_, cells, elem, h2, _⟩ := h; exact heap_lt h2
  | mp es => obtain ⟨ents, clock, h2, _⟩ := h; exact heap_lt h2

theorem Sat.none_at_size (h : Sat H F β mem w) : H w.heap.size = none ∧ F w.heap.size = none := by
  constructor
  · cases e : H w.heap.size with
    | none => rfl
    | some o => exact absurd (heap_lt (h.hH _ _ e)) (by omega)
  · cases e : F w.heap.size with
    | none => rfl
    | some o => exact absurd (heap_lt (h.hF _ _ e)) (by omega)

theorem Sat.of_heap (h : Sat H F β mem w) (hw : w'.heap = w.heap) (ho : w'.os = w.os ∧ w'.tape = w.tape ∧ w'.output = w.output) : Sat H F β mem w' :=
  { hH := fun b o x => by rw [hw]; exact h.hH b o x
    hF := fun b o x => by rw [hw]; exact h.hF b o x
    sm := ⟨ho.1.trans h.sm.os, ho.2.1.trans h.sm.tape, ho.2.2.trans h.sm.output, hw ▸ h.sm.size⟩
    hl := h.hl
    ent := fun i e x hi hx => (h.ent i e x hi hx).mono (HExt.refl _) (BExt.refl _) fun _ _ _ _ _ => by rw [hw]
    apart := h.apart
    inj := h.inj }

theorem Sat.alloc_pub (h : Sat H F β mem w) (o : Obj) : Sat (hset H w.heap.size o) F β mem (w.alloc o) := by
  have hn := h.none_at_size
  refine { hH := fun b o' x => ?_, hF := fun b o' x => ?_, sm := ⟨h.sm.os, h.sm.tape, h.sm.output, Nat.le_trans h.sm.size (by simp only [World.alloc, Array.size_push]; omega)⟩, hl := h.hl, ent := fun i e x hi hx => ?_, apart := fun i e x hi he hx => ?_, inj := h.inj }
  · unfold hset at x
    split at x
    · rename_i e; subst e; cases x; exact heap_alloc_new w o
    · rw [heap_alloc_old w o b (heap_lt (h.hH _ _ x))]; exact h.hH _ _ x
  · rw [heap_alloc_old w o b (heap_lt (h.hF _ _ x))]; exact h.hF _ _ x
  · refine (h.ent i e x hi hx).mono (HExt_hset hn.1) (BExt.refl _) fun b es cap hxe hl => ?_
    subst hxe
    exact heap_alloc_old w o b ((h.ent i e _ hi hx).lt hl)
  · have := h.apart i e x hi he hx
    refine ⟨?_, this.2⟩
    unfold hset
    split
    · rename_i e'
      have := (h.ent i e _ hi hx).lt (b := x.1) (es := x.2.1) (cap := x.2.2) he
      omega
    · exact this.1

theorem Sat.alloc_own (h : Sat H F β mem w) {cells : Array Value} {elem : TypeId} {es cap : Nat} {rows : List (List AV)}
    (h3 : cells.size = cap * es) (h4 : rows.length ≤ cap) (h5 : ∀ r ∈ rows, r.length = es) (h6 : ∀ r ∈ rows, ∀ c ∈ r, c.isCell = true)
    (h7 : ∀ (i : Nat) (r : List AV) (j : Nat) (c : AV), rows[i]? = some r → r[j]? = some c → ∃ v, cells[i * es + j]? = some v ∧ Rep H β c v) :
    Sat H F (β ++ [some (w.heap.size, es, cap)]) (mem ++ [.arr es rows]) (w.alloc (.cells cells elem)) := by
  have hn := h.none_at_size
  have hB := BExt.append β [some (w.heap.size, es, cap)]
  have old : ∀ (i : Nat) (e : Ent), (mem ++ [Ent.arr es rows])[i]? = some e → (i < mem.length ∧ mem[i]? = some e) ∨ (i = mem.length ∧ e = .arr es rows) := by
    intro i e hi
    rw [List.getElem?_append] at hi
    split at hi
    · exact .inl ⟨by assumption, hi⟩
    · rename_i hlt
      have : i - mem.length = 0 := by
        have := (List.getElem?_eq_some_iff.1 hi).1; simp at this; omega
      rw [this] at hi; simp at hi
      exact .inr ⟨by omega, hi.symm⟩
  have oldβ : ∀ i x, (β ++ [some (w.heap.size, es, cap)])[i]? = some x → (i < mem.length → β[i]? = some x) ∧ (i = mem.length → x = some (w.heap.size, es, cap)) := by
    intro i x hi
    rw [← h.hl]
    constructor
    · intro hlt; rw [List.getElem?_append_left hlt] at hi; exact hi
    · intro he; subst he; simp at hi; exact hi.symm
  refine { hH := fun b o' x => ?_, hF := fun b o' x => ?_, sm := ⟨h.sm.os, h.sm.tape, h.sm.output, Nat.le_trans h.sm.size (by simp only [World.alloc, Array.size_push]; omega)⟩, hl := by simp [h.hl], ent := fun i e x hi hx => ?_, apart := fun i e x hi he hx => ?_, inj := fun i j e e' x y hi he hj he' hx hy hxy => ?_ }
  · rw [heap_alloc_old w _ b (heap_lt (h.hH _ _ x))]; exact h.hH _ _ x
  · rw [heap_alloc_old w _ b (heap_lt (h.hF _ _ x))]; exact h.hF _ _ x
  · rcases old i e hi with ⟨hlt, hi'⟩ | ⟨hlt, rfl⟩
    · have hx' := (oldβ i x hx).1 hlt
      refine (h.ent i e x hi' hx').mono (HExt.refl _) hB fun b es cap hxe hl => ?_
      subst hxe
      exact heap_alloc_old w _ b ((h.ent i e _ hi' hx').lt hl)
    · have hx' := (oldβ i x hx).2 hlt
      subst hx'
      refine ⟨rfl, cells, elem, heap_alloc_new w _, h3, h4, h5, h6, fun i r j c hr hc => ?_⟩
      obtain ⟨v, hv, hrep⟩ := h7 i r j c hr hc
      exact ⟨v, hv, hrep.mono (HExt.refl _) hB⟩
  · rcases old i e hi with ⟨hlt, hi'⟩ | ⟨hlt, rfl⟩
    · exact h.apart i e x hi' he ((oldβ i _ hx).1 hlt)
    · have hx' := (oldβ i _ hx).2 hlt
      cases hx'; exact hn
  · rcases old i e hi with ⟨hlt, hi'⟩ | ⟨hlt, rfl⟩ <;> rcases old j e' hj with ⟨hlt', hj'⟩ | ⟨hlt', rfl⟩
    · exact h.inj i j e e' x y hi' he hj' he' ((oldβ i _ hx).1 hlt) ((oldβ j _ hy).1 hlt') hxy
    · have h1 := (oldβ i _ hx).1 hlt
      have h2 := (oldβ j _ hy).2 hlt'
      cases h2
      have := (h.ent i e _ hi' h1).lt (b := x.1) (es := x.2.1) (cap := x.2.2) he
      simp at hxy; omega
    · have h1 := (oldβ j _ hy).1 hlt'
      have h2 := (oldβ i _ hx).2 hlt
      cases h2
      have := (h.ent j e' _ hj' h1).lt (b := y.1) (es := y.2.1) (cap := y.2.2) he'
      simp at hxy; omega
    · omega

/-- An entry without a block behind it: an empty array without room. -/
theorem Sat.own_none (h : Sat H F β mem w) (es : Nat) : Sat H F (β ++ [none]) (mem ++ [.arr es []]) w := by
  have hB := BExt.append β [none]
  have old : ∀ (i : Nat) (e : Ent), (mem ++ [Ent.arr es []])[i]? = some e → (i < mem.length ∧ mem[i]? = some e) ∨ (i = mem.length ∧ e = .arr es []) := by
    intro i e hi
    rw [List.getElem?_append] at hi
    split at hi
    · exact .inl ⟨by assumption, hi⟩
    · rename_i hlt
      have : i - mem.length = 0 := by
        have := (List.getElem?_eq_some_iff.1 hi).1; simp at this; omega
      rw [this] at hi; simp at hi
      exact .inr ⟨by omega, hi.symm⟩
  have oldβ : ∀ i x, (β ++ [none])[i]? = some x → (i < mem.length → β[i]? = some x) ∧ (i = mem.length → x = none) := by
    intro i x hi
    rw [← h.hl]
    constructor
    · intro hlt; rw [List.getElem?_append_left hlt] at hi; exact hi
    · intro he; subst he; simp at hi; exact hi.symm
  refine { hH := h.hH, hF := h.hF, sm := h.sm, hl := by simp [h.hl], ent := fun i e x hi hx => ?_, apart := fun i e x hi he hx => ?_, inj := fun i j e e' x y hi he hj he' hx hy hxy => ?_ }
  · rcases old i e hi with ⟨hlt, hi'⟩ | ⟨hlt, rfl⟩
    · exact (h.ent i e x hi' ((oldβ i x hx).1 hlt)).mono (HExt.refl _) hB fun _ _ _ _ _ => rfl
    · have hx' := (oldβ i x hx).2 hlt
      subst hx'; rfl
  · rcases old i e hi with ⟨hlt, hi'⟩ | ⟨hlt, rfl⟩
    · exact h.apart i e x hi' he ((oldβ i _ hx).1 hlt)
    · have hx' := (oldβ i _ hx).2 hlt
      cases hx'
  · rcases old i e hi with ⟨hlt, hi'⟩ | ⟨hlt, rfl⟩
    · rcases old j e' hj with ⟨hlt', hj'⟩ | ⟨hlt', rfl⟩
      · exact h.inj i j e e' x y hi' he hj' he' ((oldβ i _ hx).1 hlt) ((oldβ j _ hy).1 hlt') hxy
      · have h2 := (oldβ j _ hy).2 hlt'; cases h2
    · have h2 := (oldβ i _ hx).2 hlt; cases h2

theorem Sat.kill (h : Sat H F β mem w) (i : Nat) : Sat H F β (mem.set i .dead) w := by
  have get : ∀ (j : Nat) (e : Ent), (mem.set i Ent.dead)[j]? = some e → e.live = true → mem[j]? = some e := by
    intro j e hj he
    rw [List.getElem?_set] at hj
    split at hj
    · split at hj
      · cases hj; simp at he
      · cases hj
    · exact hj
  refine { hH := h.hH, hF := h.hF, sm := h.sm, hl := by simp [h.hl], ent := fun j e x hj hx => ?_, apart := fun j e x hj he hx => h.apart j e x (get j e hj he) he hx,
           inj := fun j k e e' x y hj he hk he' hx hy hxy => h.inj j k e e' x y (get j e hj he) he (get k e' hk he') he' hx hy hxy }
  by_cases hl : e.live = true
  · exact h.ent j e x (get j e hj hl) hx
  · cases e with
    | dead => trivial
    | arr _ _ => simp at hl
    | mp _ => simp at hl

end

/-- The world with another object in a block. -/
def setO (w : World) (b : Nat) (o : Obj) : World := { w with heap := w.heap.setIfInBounds b o }

theorem setO_same {w : World} {b : Nat} {o : Obj} (h : b < w.heap.size) : (setO w b o).heap[b]? = some o := by simp [setO, h]
theorem setO_other {w : World} {b c : Nat} {o : Obj} (h : c ≠ b) : (setO w b o).heap[c]? = w.heap[c]? := by
  simp [setO, Array.getElem?_setIfInBounds_ne (Ne.symm h)]

section
variable {H : Hp} {F : Fr} {β : Bt} {mem : List Ent} {w : World}

/-- An owned array is written anew, in its own block; the entry may come to stand at another place 'j' (growth in place). -/
theorem Sat.rewrite (h : Sat H F β mem w) {i b es cap : Nat} {rows rows' : List (List AV)} (hi : mem[i]? = some (.arr es rows)) (hb : β[i]? = some (some (b, es, cap)))
    {cells : Array Value} {elem : TypeId}
    (h3 : cells.size = cap * es) (h4 : rows'.length ≤ cap) (h5 : ∀ r ∈ rows', r.length = es) (h6 : ∀ r ∈ rows', ∀ c ∈ r, c.isCell = true)
    (h7 : ∀ (i : Nat) (r : List AV) (j : Nat) (c : AV), rows'[i]? = some r → r[j]? = some c → ∃ v, cells[i * es + j]? = some v ∧ Rep H β c v) :
    Sat H F β (mem.set i (.arr es rows')) (setO w b (.cells cells elem (0, 0))) := by
  have hlt : b < w.heap.size := (h.ent i _ _ hi hb).lt rfl
  have hap := h.apart i _ _ hi rfl hb
  have get : ∀ (j : Nat) (e : Ent), (mem.set i (Ent.arr es rows'))[j]? = some e → (j = i ∧ e = .arr es rows') ∨ (j ≠ i ∧ mem[j]? = some e) := by
    intro j e hj
    rw [List.getElem?_set] at hj
    split at hj
    · rename_i e'; subst e'
      split at hj
      · cases hj; exact .inl ⟨rfl, rfl⟩
      · cases hj
    · rename_i e'; exact .inr ⟨fun x => e' x.symm, hj⟩
  refine { hH := fun c o x => ?_, hF := fun c o x => ?_, sm := ⟨h.sm.os, h.sm.tape, h.sm.output, by have := h.sm.size; simpa [setO] using this⟩, hl := by simp [h.hl], ent := fun j e x hj hx => ?_, apart := fun j e x hj he hx => ?_, inj := fun j k e e' x y hj he hk he' hx hy hxy => ?_ }
  · rw [setO_other (fun e => by subst e; rw [hap.1] at x; cases x)]; exact h.hH _ _ x
  · rw [setO_other (fun e => by subst e; rw [hap.2] at x; cases x)]; exact h.hF _ _ x
  · rcases get j e hj with ⟨rfl, rfl⟩ | ⟨hne, hj'⟩
    · rw [hb] at hx; cases hx
      exact ⟨rfl, cells, elem, setO_same hlt, h3, h4, h5, h6, h7⟩
    · refine (h.ent j e x hj' hx).mono (HExt.refl _) (BExt.refl _) fun c es' cap' hxe hl => ?_
      subst hxe
      refine setO_other fun e' => ?_
      subst e'
      exact hne (h.inj j i e _ _ _ hj' hl hi rfl hx hb rfl)
  · rcases get j e hj with ⟨rfl, rfl⟩ | ⟨hne, hj'⟩
    · exact h.apart j _ x hi rfl hx
    · exact h.apart j e x hj' he hx
  · have aux : ∀ (j : Nat) (e : Ent), (mem.set i (Ent.arr es rows'))[j]? = some e → e.live = true → ∃ e0 : Ent, mem[j]? = some e0 ∧ e0.live = true := by
      intro j e hj he
      rcases get j e hj with ⟨rfl, rfl⟩ | ⟨hne, hj'⟩
      · exact ⟨_, hi, rfl⟩
      · exact ⟨_, hj', he⟩
    obtain ⟨e0, hj0, he0⟩ := aux j e hj he
    obtain ⟨e1, hk0, he1⟩ := aux k e' hk he'
    exact h.inj j k e0 e1 x y hj0 he0 hk0 he1 hx hy hxy

/-- An entry goes to the end of the list, with its block. -/
theorem Sat.move (h : Sat H F β mem w) {i : Nat} {e : Ent} {x : Option (Nat × Nat × Nat)} (hi : mem[i]? = some e) (hb : β[i]? = some x) :
    Sat H F (β ++ [x]) (mem.set i .dead ++ [e]) w := by
  have hB := BExt.append β [x]
  have hlen : (mem.set i Ent.dead).length = mem.length := by simp
  have old : ∀ (j : Nat) (e' : Ent), (mem.set i Ent.dead ++ [e])[j]? = some e' → e'.live = true → (j < mem.length ∧ j ≠ i ∧ mem[j]? = some e') ∨ (j = mem.length ∧ e' = e) := by
    intro j e' hj he'
    rw [List.getElem?_append] at hj
    split at hj
    · rename_i hlt
      rw [List.getElem?_set] at hj
      split at hj
      · split at hj
        · cases hj; simp at he'
        · cases hj
      · rename_i hne; exact .inl ⟨by simpa using hlt, fun e => hne e.symm, hj⟩
    · rename_i hlt
      have : j - (mem.set i Ent.dead).length = 0 := by
        have := (List.getElem?_eq_some_iff.1 hj).1; simp at this; omega
      rw [this] at hj; simp at hj hlt
      exact .inr ⟨by simp at this; omega, hj.symm⟩
  have oldβ : ∀ j y, (β ++ [x])[j]? = some y → (j < mem.length → β[j]? = some y) ∧ (j = mem.length → y = x) := by
    intro j y hj
    rw [← h.hl]
    constructor
    · intro hlt; rw [List.getElem?_append_left hlt] at hj; exact hj
    · intro he; subst he; simp at hj; exact hj.symm
  have hil : i < mem.length := (List.getElem?_eq_some_iff.1 hi).1
  refine { hH := h.hH, hF := h.hF, sm := h.sm, hl := by simp [h.hl], ent := fun j e' y hj hy => ?_, apart := fun j e' y hj he hy => ?_, inj := fun j k e1 e2 y z hj he hk he' hy hz hyz => ?_ }
  · by_cases hl : e'.live = true
    · rcases old j e' hj hl with ⟨hlt, _, hj'⟩ | ⟨hlt, rfl⟩
      · exact (h.ent j e' y hj' ((oldβ j y hy).1 hlt)).mono (HExt.refl _) hB fun _ _ _ _ _ => rfl
      · have := (oldβ j y hy).2 hlt; subst this
        exact (h.ent i e' y hi hb).mono (HExt.refl _) hB fun _ _ _ _ _ => rfl
    · cases e' with
      | dead => trivial
      | arr _ _ => simp at hl
      | mp _ => simp at hl
  · rcases old j e' hj he with ⟨hlt, _, hj'⟩ | ⟨hlt, rfl⟩
    · exact h.apart j e' y hj' he ((oldβ j _ hy).1 hlt)
    · have := (oldβ j _ hy).2 hlt; subst this
      exact h.apart i e' y hi he hb
  · rcases old j e1 hj he with ⟨hlt, hne, hj'⟩ | ⟨hlt, rfl⟩ <;> rcases old k e2 hk he' with ⟨hlt', hne', hk'⟩ | ⟨hlt', rfl⟩
    · exact h.inj j k e1 e2 y z hj' he hk' he' ((oldβ j _ hy).1 hlt) ((oldβ k _ hz).1 hlt') hyz
    · have := (oldβ k _ hz).2 hlt'; subst this
      exact absurd (h.inj j i e1 _ y z hj' he hi he' ((oldβ j _ hy).1 hlt) hb hyz) hne
    · have := (oldβ j _ hy).2 hlt; subst this
      exact absurd (h.inj i k _ e2 y z hi he hk' he' hb ((oldβ k _ hz).1 hlt') hyz).symm hne'
    · omega
end

/-- The cells of a value. -/
def AV.cells : AV → List AV
  | .agg cs => cs
  | v => [v]

theorem Rep.one {H : Hp} {β : Bt} {c : AV} {v : Value} (r : Rep H β c v) (h : c.isCell = true) : v.oneCell' = true ∧ v.cells = #[v] := by
  cases r <;> first | (simp at h; done) | exact ⟨rfl, rfl⟩

theorem Rep.cells {H : Hp} {β : Bt} {c : AV} {x : Value} (r : Rep H β c x) (hc : ∀ d ∈ c.cells, d.isCell = true) :
    x.cells.size = c.cells.length ∧ (∀ v ∈ x.cells.toList, v.oneCell' = true) ∧ ∀ (i : Nat) d v, c.cells[i]? = some d → x.cells[i]? = some v → Rep H β d v := by
  cases c with
  | agg cs =>
    cases r with
    | agg hl hcs h =>
      refine ⟨hl, fun v hv => ?_, h⟩
      obtain ⟨i, hi, rfl⟩ := List.getElem_of_mem hv
      simp [Value.cells] at hi
      have hi' : i < cs.length := by omega
      exact (h i cs[i] _ (List.getElem?_eq_getElem hi') (Array.getElem?_eq_getElem hi)).one (hcs _ (List.getElem_mem hi')) |>.1
  | junk | int | bool | str | tup | e0 | sl | ip | ms | mp | fn | mapr | nilp | nilf | nilm | opt =>
    have h2 := r.one (hc _ (List.mem_singleton.2 rfl))
    refine ⟨by simp [h2.2, AV.cells], by simpa [h2.2] using h2.1, fun i d v hd hv => ?_⟩
    rw [h2.2] at hv
    cases i with
    | zero => simp [AV.cells] at hd hv; subst hd; subst hv; exact r
    | succ i => simp [AV.cells] at hd

theorem exists_list {p : Nat → Value → Prop} : ∀ (n : Nat), (∀ j, j < n → ∃ v, p j v) → ∃ vs : List Value, vs.length = n ∧ ∀ (j : Nat) v, vs[j]? = some v → p j v
  | 0, _ => ⟨[], rfl, by simp⟩
  | n + 1, h => by
    obtain ⟨vs, hl, hv⟩ := exists_list n fun j hj => h j (by omega)
    obtain ⟨v, hn⟩ := h n (by omega)
    refine ⟨vs ++ [v], by simp [hl], fun j u hj => ?_⟩
    rw [List.getElem?_append] at hj
    split at hj
    · exact hv j u hj
    · rename_i hlt
      have : j - vs.length = 0 := by have := (List.getElem?_eq_some_iff.1 hj).1; simp at this; omega
      rw [this] at hj; simp at hj; subst hj
      obtain rfl : j = n := by omega
      exact hn

theorem addr_add (b o j : Nat) : (⟨b, o, none⟩ : Addr).add j = ⟨b, o + j, none⟩ := by unfold Addr.add; split <;> simp_all

end Go.Fw
