/- Calls: the callee's contract carries the caller on. -/
import Derived.Test.YteldjoikaepijaaFw13
namespace Go.Fw
open Go

def updMem (mem : List Ent) : List Nat → List Ent → List Ent
  | i :: is, e :: es => (updMem mem is es).set i e
  | _, _ => mem

@[simp] theorem updMem_length (mem : List Ent) : ∀ (is : List Nat) (es : List Ent), (updMem mem is es).length = mem.length
  | [], _ => by simp [updMem]
  | _ :: _, [] => by simp [updMem]
  | i :: is, e :: es => by simp [updMem, updMem_length mem is es]

theorem updMem_not (mem : List Ent) (k : Nat) : ∀ (is : List Nat) (es : List Ent), k ∉ is → (updMem mem is es)[k]? = mem[k]?
  | [], _, _ => by simp [updMem]
  | _ :: _, [], _ => by simp [updMem]
  | i :: is, e :: es, h => by
    simp only [List.mem_cons, not_or] at h
    simp only [updMem]
    rw [List.getElem?_set_ne (Ne.symm h.1)]
    exact updMem_not mem k is es h.2

theorem updMem_at (mem : List Ent) : ∀ (is : List Nat) (es : List Ent), is.Nodup → ∀ (j i : Nat) e, is[j]? = some i → es[j]? = some e → i < mem.length → (updMem mem is es)[i]? = some e
  | [], _, _, j, i, e, h, _, _ => by simp at h
  | _ :: _, [], _, j, i, e, _, h, _ => by simp at h
  | i0 :: is, e0 :: es, hn, j, i, e, hi, he, hlt => by
    simp only [updMem]
    cases j with
    | zero =>
      simp at hi he; subst hi; subst he
      rw [List.getElem?_set]; simp [hlt]
    | succ j =>
      have hi' : is[j]? = some i := by simpa using hi
      have hne : i0 ≠ i := by
        intro h; subst h
        exact (List.nodup_cons.1 hn).1 (List.mem_of_getElem? hi')
      rw [List.getElem?_set_ne hne]
      exact updMem_at mem is es (List.nodup_cons.1 hn).2 j i e hi' (by simpa using he) hlt

def ren (is : List Nat) (n : Nat) (j : Nat) : Nat := if j < is.length then is.getD j 0 else n + (j - is.length)

theorem ren_lt {is : List Nat} {n j : Nat} (h : j < is.length) : ren is n j = is[j] := by simp [ren, h]
theorem ren_get {is : List Nat} {n j i : Nat} (h : is[j]? = some i) : ren is n j = i := by
  have hl := (List.getElem?_eq_some_iff.1 h).1
  rw [ren_lt hl]; rw [List.getElem?_eq_getElem hl] at h; cases h; rfl

section
open Classical
variable {P : Program} {H : Hp} {F : Fr} {β : Bt} {N : Nat} {st : St} {a : Act} {w : World}

/-- What the caller holds fixed while the callee runs. -/
noncomputable def fixed (w0 w : World) (memC : List Ent) (βC : Bt) : Fr := ⟨fun b =>
  if ∃ (j : Nat) (e : Ent) (x : Nat × Nat × Nat), memC[j]? = some e ∧ e.live = true ∧ βC[j]? = some (some x) ∧ x.1 = b then none else w.heap[b]?, w0⟩

/-- The owned blocks behind a call. -/
theorem call_sat {memC m' : List Ent} {is : List Nat} {βC' : Bt} {H' : Hp} {w' : World} (hs : Sat H F β st.mem w) (hlen : is.length = memC.length) (hnd : is.Nodup)
    (hent : ∀ (j i : Nat) e, is[j]? = some i → memC[j]? = some e → st.mem[i]? = some (e.ren (ren is st.mem.length))) (hlt : ∀ i ∈ is, i < st.mem.length)
    (hs' : Sat H' (fixed F.w0 w memC (is.map fun i => (β[i]?).getD none)) βC' m' w') (hx : HX (fixed F.w0 w memC (is.map fun i => (β[i]?).getD none)) H H')
    (hb : BEq0 memC.length (is.map fun i => (β[i]?).getD none) βC') (hm : memC.length ≤ m'.length) :
    Sat H' F (β ++ βC'.drop is.length) (updMem st.mem is ((m'.take is.length).map (Ent.ren (ren is st.mem.length))) ++ (m'.drop is.length).map (Ent.ren (ren is st.mem.length))) w' ∧ HX F H H' ∧
      (∀ (i : Nat) y, βC'[i]? = some y → (β ++ βC'.drop is.length)[ren is st.mem.length i]? = some y) := by
  generalize hρ : ren is st.mem.length = ρ at *
  generalize hβC : (is.map fun i => (β[i]?).getD none) = βC at *
  have hβl : β.length = st.mem.length := hs.hl
  have bC : ∀ (j i : Nat), is[j]? = some i → βC[j]? = β[i]? := by
    intro j i h
    subst hβC
    have hi := hlt i (List.mem_of_getElem? h)
    rw [List.getElem?_map, h]
    simp [List.getElem?_eq_getElem (show i < β.length by omega)]
  have eq0 : ∀ (j i : Nat), is[j]? = some i → βC'[j]? = β[i]? := by
    intro j i h
    have hj := (List.getElem?_eq_some_iff.1 h).1
    rw [hb j (by omega), bC j i h]
  have hρ' : ∀ (i : Nat) y, βC'[i]? = some y → (β ++ βC'.drop is.length)[ρ i]? = some y := by
    intro i y hi
    by_cases h : i < is.length
    · have e : ρ i = is[i] := by rw [← hρ]; exact ren_lt h
      rw [e]
      have h1 : is[i]? = some is[i] := List.getElem?_eq_getElem h
      have h2 := hlt _ (List.mem_of_getElem? h1)
      rw [List.getElem?_append_left (by omega), ← eq0 i _ h1]; exact hi
    · have e : ρ i = st.mem.length + (i - is.length) := by rw [← hρ]; simp [ren, h]
      rw [e, List.getElem?_append_right (by omega), List.getElem?_drop, hβl, show is.length + (st.mem.length + (i - is.length) - st.mem.length) = i by omega]
      exact hi
  -- blocks of the callee's at the start
  have own : ∀ b, fixed F.w0 w memC βC b = none → b < w.heap.size → ∃ (j i : Nat) (e : Ent) (x : Nat × Nat × Nat), is[j]? = some i ∧ memC[j]? = some e ∧ e.live = true ∧ β[i]? = some (some x) ∧ x.1 = b := by
    intro b hf hlt'
    unfold fixed at hf
    dsimp only at hf
    split at hf
    · rename_i h
      obtain ⟨j, e, x, h1, h2, h3, h4⟩ := h
      have hj : j < is.length := by have := (List.getElem?_eq_some_iff.1 h1).1; omega
      have hji : is[j]? = some is[j] := List.getElem?_eq_getElem hj
      exact ⟨j, is[j], e, x, hji, h1, h2, by rw [← bC j _ hji]; exact h3, h4⟩
    · rw [Array.getElem?_eq_getElem hlt'] at hf; cases hf
  have ownF : ∀ b, fixed F.w0 w memC βC b = none → F b = none := by
    intro b hf
    cases hFb : F b with
    | none => rfl
    | some o =>
      have h1 := hs.hF _ _ hFb
      obtain ⟨j, i, e, x, g1, g2, g3, g4, g5⟩ := own b hf (heap_lt h1)
      have := (hs.apart i _ x (hent j i e g1 g2) (by rw [Ent.live_ren]; exact g3) g4).2
      rw [g5, hFb] at this; cases this
  have notown : ∀ (i : Nat) (e : Ent) (x : Nat × Nat × Nat), i ∉ is → st.mem[i]? = some e → e.live = true → β[i]? = some (some x) → fixed F.w0 w memC βC x.1 = w.heap[x.1]? ∧ x.1 < w.heap.size := by
    intro i e x hi he hl hx'
    have hblt := (hs.ent i e _ he hx').lt (b := x.1) (es := x.2.1) (cap := x.2.2) hl
    refine ⟨?_, hblt⟩
    cases hf : fixed F.w0 w memC βC x.1 with
    | none =>
      obtain ⟨j, i', e', y, g1, g2, g3, g4, g5⟩ := own _ hf hblt
      have := hs.inj i i' e _ x y he hl (hent j i' e' g1 g2) (by rw [Ent.live_ren]; exact g3) hx' g4 g5.symm
      subst this
      exact absurd (List.mem_of_getElem? g1) hi
    | some o =>
      unfold fixed at hf
      dsimp only at hf
      split at hf
      · cases hf
      · exact hf.symm
  have hxF : HX F H H' := ⟨hx.1, fun b o h => by
    rcases hx.2 b o h with h | h
    · exact .inl h
    · exact .inr (ownF b h)⟩
  refine ⟨?_, hxF, hρ'⟩
  -- where an entry comes from
  have cls : ∀ (i : Nat) (e : Ent), (updMem st.mem is ((m'.take is.length).map (Ent.ren ρ)) ++ (m'.drop is.length).map (Ent.ren ρ))[i]? = some e →
      (i < st.mem.length ∧ i ∉ is ∧ st.mem[i]? = some e) ∨ (∃ (j : Nat) (e' : Ent), m'[j]? = some e' ∧ e = e'.ren ρ ∧ i = ρ j) := by
    intro i e hi
    rw [List.getElem?_append] at hi
    split at hi
    · rename_i hil
      rw [updMem_length] at hil
      by_cases hmem : i ∈ is
      · obtain ⟨j, hj, rfl⟩ := List.getElem_of_mem hmem
        have hjm : j < m'.length := by omega
        have := updMem_at st.mem is ((m'.take is.length).map (Ent.ren ρ)) hnd j is[j] (m'[j].ren ρ) (List.getElem?_eq_getElem hj) (by simp [hj, hjm]) hil
        rw [this] at hi; cases hi
        exact .inr ⟨j, m'[j], List.getElem?_eq_getElem hjm, rfl, by rw [← hρ, ren_lt hj]⟩
      · rw [updMem_not st.mem i is _ hmem] at hi
        exact .inl ⟨hil, hmem, hi⟩
    · rename_i hil
      rw [updMem_length] at hil hi
      rw [List.getElem?_map, Option.map_eq_some_iff] at hi
      obtain ⟨e', he', rfl⟩ := hi
      rw [List.getElem?_drop] at he'
      refine .inr ⟨_, e', he', rfl, ?_⟩
      rw [← hρ]; unfold ren; rw [if_neg (by omega)]; omega
  have clsβ1 : ∀ (i : Nat) x, i < st.mem.length → (β ++ βC'.drop is.length)[i]? = some x → β[i]? = some x := by
    intro i x h1 h2
    rw [List.getElem?_append_left (by omega)] at h2; exact h2
  have clsβ2 : ∀ (j : Nat) (e' : Ent) x, m'[j]? = some e' → (β ++ βC'.drop is.length)[ρ j]? = some x → βC'[j]? = some x := by
    intro j e' x h1 h2
    have hj : j < βC'.length := by rw [hs'.hl]; exact (List.getElem?_eq_some_iff.1 h1).1
    have h3 : βC'[j]? = some βC'[j] := List.getElem?_eq_getElem hj
    rw [hρ' j _ h3] at h2; cases h2; exact h3
  refine { hH := hs'.hH, hF := fun b o h => ?_, sm := ⟨hs'.sm.os, hs'.sm.tape, hs'.sm.output, hs'.sm.size⟩, hl := ?_, ent := fun i e x hi hx' => ?_, apart := fun i e x hi he hx' => ?_, inj := fun i k e e2 x y hi he hk he2 hx' hy hxy => ?_ }
  · cases hf : fixed F.w0 w memC βC b with
    | none => rw [ownF b hf] at h; cases h
    | some o' =>
      have h1 := hs.hF _ _ h
      have h2 : fixed F.w0 w memC βC b = w.heap[b]? := by
        unfold fixed at hf ⊢
        dsimp only at hf ⊢
        split at hf
        · cases hf
        · rename_i hne; rw [if_neg hne]
      rw [h2, h1] at hf; cases hf
      exact hs'.hF _ _ (by rw [h2]; exact h1)
  · have h1 := hs'.hl
    simp; omega
  · rcases cls i e hi with ⟨h1, h2, h3⟩ | ⟨j, e', h1, rfl, rfl⟩
    · have hβi := clsβ1 i x h1 hx'
      refine (hs.ent i e x h3 hβi).mono hxF.1 (.append _ _) fun b es cap hxe hl => ?_
      subst hxe
      obtain ⟨g1, g2⟩ := notown i e _ h2 h3 hl hβi
      have : w.heap[b]? = some w.heap[b] := Array.getElem?_eq_getElem g2
      rw [this]
      exact hs'.hF _ _ (by rw [← this]; exact g1)
    · exact (hs'.ent j e' x h1 (clsβ2 j e' x h1 hx')).ren hρ'
  · rcases cls i e hi with ⟨h1, h2, h3⟩ | ⟨j, e', h1, rfl, rfl⟩
    · have hβi := clsβ1 i _ h1 hx'
      obtain ⟨g1, g2⟩ := hs.apart i e x h3 he hβi
      refine ⟨?_, g2⟩
      cases hh : H' x.1 with
      | none => rfl
      | some o =>
        rcases hx.2 _ _ hh with h | h
        · rw [g1] at h; cases h
        · obtain ⟨f1, f2⟩ := notown i e x h2 h3 he hβi
          rw [h, Array.getElem?_eq_getElem f2] at f1; cases f1
    · rw [Ent.live_ren] at he
      obtain ⟨g1, g2⟩ := hs'.apart j e' x h1 he (clsβ2 j e' _ h1 hx')
      exact ⟨g1, ownF _ g2⟩
  · rcases cls i e hi with ⟨h1, h2, h3⟩ | ⟨j, e', h1, rfl, rfl⟩ <;> rcases cls k e2 hk with ⟨q1, q2, q3⟩ | ⟨l, e3, q1, rfl, rfl⟩
    · exact hs.inj i k e e2 x y h3 he q3 he2 (clsβ1 i _ h1 hx') (clsβ1 k _ q1 hy) hxy
    · rw [Ent.live_ren] at he2
      have g2 := (hs'.apart l e3 y q1 he2 (clsβ2 l e3 _ q1 hy)).2
      obtain ⟨f1, f2⟩ := notown i e x h2 h3 he (clsβ1 i _ h1 hx')
      rw [hxy, g2] at f1
      rw [hxy] at f2
      rw [Array.getElem?_eq_getElem f2] at f1; cases f1
    · rw [Ent.live_ren] at he
      have g2 := (hs'.apart j e' x h1 he (clsβ2 j e' _ h1 hx')).2
      obtain ⟨f1, f2⟩ := notown k e2 y q2 q3 he2 (clsβ1 k _ q1 hy)
      rw [← hxy, g2] at f1
      rw [← hxy] at f2
      rw [Array.getElem?_eq_getElem f2] at f1; cases f1
    · rw [Ent.live_ren] at he he2
      have := hs'.inj j l e' e3 x y h1 he q1 he2 (clsβ2 j e' _ h1 hx') (clsβ2 l e3 _ q1 hy) hxy
      rw [this]

theorem nodup_inj : ∀ (l : List Nat), l.Nodup → ∀ (j k i : Nat), l[j]? = some i → l[k]? = some i → j = k
  | [], _, j, k, i, h, _ => by simp at h
  | x :: l, hn, j, k, i, h1, h2 => by
    have hx := (List.nodup_cons.1 hn).1
    cases j with
    | zero =>
      cases k with
      | zero => rfl
      | succ k => simp at h1 h2; subst h1; exact absurd (List.mem_of_getElem? h2) hx
    | succ j =>
      cases k with
      | zero => simp at h1 h2; subst h2; exact absurd (List.mem_of_getElem? h1) hx
      | succ k => rw [nodup_inj l (List.nodup_cons.1 hn).2 j k i (by simpa using h1) (by simpa using h2)]

theorem call_start {memC : List Ent} {is : List Nat} (hs : Sat H F β st.mem w) (hlen : is.length = memC.length) (hnd : is.Nodup)
    (hent : ∀ (j i : Nat) e, is[j]? = some i → memC[j]? = some e → st.mem[i]? = some (e.ren (ren is st.mem.length))) (hlt : ∀ i ∈ is, i < st.mem.length) (hbel : ∀ e ∈ memC, e.bel memC.length) :
    Sat H (fixed F.w0 w memC (is.map fun i => (β[i]?).getD none)) (is.map fun i => (β[i]?).getD none) memC w ∧
      (∀ (i : Nat) y, i < memC.length → β[ren is st.mem.length i]? = some y → (is.map fun i => (β[i]?).getD none)[i]? = some y) := by
  have bC : ∀ (j i : Nat), is[j]? = some i → (is.map fun i => (β[i]?).getD none)[j]? = β[i]? := by
    intro j i h
    have hi := hlt i (List.mem_of_getElem? h)
    rw [List.getElem?_map, h]
    simp [List.getElem?_eq_getElem (show i < β.length by rw [hs.hl]; exact hi)]
  have hρ : ∀ (i : Nat) y, i < memC.length → β[ren is st.mem.length i]? = some y → (is.map fun i => (β[i]?).getD none)[i]? = some y := by
    intro i y hi hy
    have h1 : is[i]? = some is[i] := List.getElem?_eq_getElem (by omega)
    rw [ren_lt (by omega)] at hy
    rw [bC i _ h1]; exact hy
  have geti : ∀ (j : Nat) (e : Ent), memC[j]? = some e → ∃ i, is[j]? = some i := by
    intro j e h
    have := (List.getElem?_eq_some_iff.1 h).1
    exact ⟨is[j]'(by omega), List.getElem?_eq_getElem _⟩
  refine ⟨{ hH := hs.hH, hF := fun b o h => ?_, sm := ⟨hs.sm.os, hs.sm.tape, hs.sm.output, hs.sm.size⟩, hl := by simp [hlen], ent := fun j e x hj hx => ?_, apart := fun j e x hj he hx => ?_, inj := fun j k e e' x y hj he hk he' hx hy hxy => ?_ }, hρ⟩
  · unfold fixed at h
    dsimp only at h
    split at h
    · cases h
    · exact h
  · obtain ⟨i, hi⟩ := geti j e hj
    rw [bC j i hi] at hx
    exact (hs.ent i _ x (hent j i e hi hj) hx).unren (hbel e (List.mem_of_getElem? hj)) hρ
  · obtain ⟨i, hi⟩ := geti j e hj
    refine ⟨(hs.apart i _ x (hent j i e hi hj) (by rw [Ent.live_ren]; exact he) (by rw [← bC j i hi]; exact hx)).1, ?_⟩
    unfold fixed
    dsimp only
    rw [if_pos ⟨j, e, x, hj, he, hx, rfl⟩]
  · obtain ⟨i, hi⟩ := geti j e hj
    obtain ⟨l, hl⟩ := geti k e' hk
    have := hs.inj i l _ _ x y (hent j i e hi hj) (by rw [Ent.live_ren]; exact he) (hent k l e' hl hk) (by rw [Ent.live_ren]; exact he') (by rw [← bC j i hi]; exact hx) (by rw [← bC k l hl]; exact hy) hxy
    subst this
    exact nodup_inj is hnd j k i hi hl

end

/-- The step of a call. -/
theorem call_step {C : Ctx} {H : Hp} {F : Fr} {β : Bt} {st : St} {a : Act} {w : World} {b : Frame} {cs : List Frame} {os : Array Oper} {j : Nat} {idx : List Nat} {k' : List Item} {o : Oper}
    {f : FuncId} {argsC : List AV} {memC : List Ent} {R : AV → List Ent → Prop} {is : List Nat} {cargs : Array Value}
    (hj : os[j]? = some o) (hw : Region.wanted o (yielded os a.tmps) = true) (hd2 : ∀ n, o.dst = some n → n < C.fn.ntmps)
    (hr : Rel H F β C.fn.ntmps st a w) (hspec : Spec C.P f argsC memC R) (hrun : (execOp a.eval o).run C.P w = ((callFunc f cargs).run C.P w))
    (hsz : cargs.size = argsC.length) (hargs : ∀ (i : Nat) v x, argsC[i]? = some v → cargs[i]? = some x → Rep H β (v.ren (ren is st.mem.length)) x) (habel : ∀ v ∈ argsC, v.bel memC.length = true)
    (hlen : is.length = memC.length) (hnd : is.Nodup) (hent : ∀ (j i : Nat) e, is[j]? = some i → memC[j]? = some e → st.mem[i]? = some (e.ren (ren is st.mem.length)))
    (hlt : ∀ i ∈ is, i < st.mem.length) (hbel : ∀ e ∈ memC, e.bel memC.length) :
    ∃ r m' a1 w1 H1 β1, R r m' ∧ Steps C.P (lone (b.at a (.inRegion os (j :: idx) :: k')) cs w) (lone (b.at a1 (.inRegion os idx :: k')) cs w1) ∧ HX F H H1 ∧ BExt β β1 ∧
      Rel H1 F β1 C.fn.ntmps ⟨put st.env o.dst (r.ren (ren is st.mem.length)), updMem st.mem is ((m'.take is.length).map (Ent.ren (ren is st.mem.length))) ++ (m'.drop is.length).map (Ent.ren (ren is st.mem.length))⟩ a1 w1 := by
  obtain ⟨hcall, hsp⟩ := hspec
  obtain ⟨s1, s2⟩ := call_start hr.sat hlen hnd hent hlt hbel
  have hC := hsp H _ _ cargs w s1 hsz fun i v x h1 h2 => Rep.unren (fun i y hi hy => s2 i y hi hy) v x (habel v (List.mem_of_getElem? h1)) (hargs i v x h1 h2)
  obtain ⟨v, w1, ⟨v', r, m', H1, βC', e1, g2, g3, g4, g5, g6, g7⟩, hst⟩ := steps_op_enter (b := b) (k := k') (cs := cs) (rest := idx) hj hw (by rw [hrun]; exact hcall cargs w) hC
    (fun e w'' ⟨v, _, _, _, _, h, _⟩ => ⟨v, h⟩)
  cases e1
  obtain ⟨q1, q2, q3⟩ := call_sat hr.sat hlen hnd hent hlt g4 g5 g6 g7
  have hd3 : (match o.dst with | some d => decide (d < C.fn.ntmps) | none => true) = true := by
    cases h : o.dst with
    | none => rfl
    | some n => simpa using hd2 n h
  exact ⟨r, m', _, w1, H1, _, g2, hst, q2, .append _ _, rel_putd hr q2.1 (.append _ _) hd3 (g3.ren q3) q1⟩

theorem call_op {P : Program} {os : Array Oper} {N : Nat} {c : COp} {o : Oper} {f : FuncId} {xs : List Ar} {H : Hp} {F : Fr} {β : Bt} {st : St} {a : Act} {w : World} (hc : chkOp P N os c o = true) (hk : c.k = .call f xs) (hr : Rel H F β N st a w) :
    ∃ cargs : Array Value, (execOp a.eval o).run P w = (callFunc f cargs).run P w ∧ cargs.size = xs.length ∧ ∀ (i : Nat) v x, (xs.map (ar st.env))[i]? = some v → cargs[i]? = some x → Rep H β v x := by
  unfold chkOp at hc
  simp only [Bool.and_eq_true] at hc
  have h4 := hc.2
  rw [hk] at h4
  cases hop : o.op <;> rw [hop] at h4 <;> try (simp [chkK] at h4; done)
  rename_i cc
  obtain ⟨callee, args, argTypes⟩ := cc
  cases callee <;> try (simp [chkK] at h4; done)
  rename_i g
  cases g <;> try (simp [chkK] at h4; done)
  rename_i g
  simp only [chkK, Bool.and_eq_true, beq_iff_eq] at h4
  obtain ⟨rfl, h4⟩ := h4
  obtain ⟨g1, g2⟩ := rel_ars hr h4
  refine ⟨args.map a.eval, ?_, by simpa using g1, fun i v x h1 h2 => g2 i v x h1 (by simpa using h2)⟩
  simp [execOp, hop, resolve, Act.eval, Deferred.ofValue, invoke]

theorem callv_op {P : Program} {os : Array Oper} {N : Nat} {c : COp} {o : Oper} {f : FuncId} {y : Ar} {xs : List Ar} {caps : List AV} {H : Hp} {F : Fr} {β : Bt} {st : St} {a : Act} {w : World} (hc : chkOp P N os c o = true) (hk : c.k = .callv y xs) (hr : Rel H F β N st a w)
    (hy : ar st.env y = .fn f caps) :
    ∃ cargs : Array Value, (execOp a.eval o).run P w = (callFunc f cargs).run P w ∧ cargs.size = (xs.map (ar st.env) ++ caps).length ∧ ∀ (i : Nat) v x, (xs.map (ar st.env) ++ caps)[i]? = some v → cargs[i]? = some x → Rep H β v x := by
  unfold chkOp at hc
  simp only [Bool.and_eq_true] at hc
  have h4 := hc.2
  rw [hk] at h4
  cases hop : o.op <;> rw [hop] at h4 <;> try (simp [chkK] at h4; done)
  rename_i cc
  obtain ⟨callee, args, argTypes⟩ := cc
  cases callee <;> try (simp [chkK] at h4; done)
  rename_i g
  simp only [chkK, Bool.and_eq_true] at h4
  obtain ⟨h3, h4⟩ := h4
  obtain ⟨g1, g2⟩ := rel_ars hr h4
  have ry := hr.ar h3
  rw [hy] at ry
  generalize hg : a.eval g = gv at ry
  cases ry with
  | @fn _ _ _ vs hl hrep =>
    refine ⟨args.map a.eval ++ vs, ?_, by simp at g1 ⊢; omega, fun i v x h1 h2 => ?_⟩
    · simp [execOp, hop, resolve, hg, Deferred.ofValue, invoke]
    · rw [List.getElem?_append] at h1
      rw [Array.getElem?_append] at h2
      have hsz : (args.map a.eval).size = (xs.map (ar st.env)).length := by simp at g1 ⊢; exact g1
      rw [hsz] at h2
      split at h1
      · rename_i hlt
        rw [if_pos hlt] at h2
        exact g2 i v x h1 (by simpa using h2)
      · rename_i hlt
        rw [if_neg hlt] at h2
        exact hrep _ v x h1 h2

section
variable {C : Ctx} {k : List CItem} {st : St}

/-- What a call needs of the state. -/
structure CallOk (st : St) (args argsC : List AV) (memC : List Ent) (is : List Nat) : Prop where
  args : args = argsC.map (AV.ren (ren is st.mem.length))
  abel : ∀ v ∈ argsC, v.bel memC.length = true
  len : is.length = memC.length
  nd : is.Nodup
  ent : ∀ (j i : Nat) e, is[j]? = some i → memC[j]? = some e → st.mem[i]? = some (e.ren (ren is st.mem.length))
  lt : ∀ i ∈ is, i < st.mem.length
  bel : ∀ e ∈ memC, e.bel memC.length

/-- The owned blocks behind a call. -/
def memAfter (mem : List Ent) (is : List Nat) (m' : List Ent) : List Ent :=
  updMem mem is ((m'.take is.length).map (Ent.ren (ren is mem.length))) ++ (m'.drop is.length).map (Ent.ren (ren is mem.length))

theorem chkOp_dst {P : Program} {N : Nat} {os : Array Oper} {c : COp} {o : Oper} (hc : chkOp P N os c o = true) : c.d = o.dst ∧ ∀ n, o.dst = some n → n < N := by
  unfold chkOp at hc
  simp only [Bool.and_eq_true, beq_iff_eq] at hc
  obtain ⟨⟨⟨h1, h2⟩, h3⟩, h4⟩ := hc
  refine ⟨h1, fun n hn => ?_⟩
  rw [h1, hn] at h2
  simpa using h2

theorem chkOp_guard {P : Program} {N : Nat} {os : Array Oper} {d : Option Nat} {kk : K} {o : Oper} (hc : chkOp P N os (.mk d none kk) o = true) : o.guard = none := by
  unfold chkOp at hc
  simp only [Bool.and_eq_true] at hc
  have h3 := hc.1.2
  cases hog : o.guard with
  | none => rfl
  | some _ => simp [chkG, hog] at h3

theorem AW.call {d : Option Nat} {keep : List Nat} {l : List COp} {f : FuncId} {xs : List Ar} {argsC : List AV} {memC : List Ent} {R : AV → List Ent → Prop} (is : List Nat)
    (hspec : Spec C.P f argsC memC R) (hok : CallOk st (xs.map (ar st.env)) argsC memC is)
    (h : ∀ r m', R r m' → AW C (.ops keep l :: k) ⟨put st.env d (r.ren (ren is st.mem.length)), memAfter st.mem is m'⟩) :
    AW C (.ops keep (.mk d none (.call f xs) :: l) :: k) st := by
  intro H F β a w b cs todo hm hr hn
  cases hm with
  | ops ho hk =>
    rename_i os idx k'
    cases idx with
    | nil => simp [OpsM] at ho
    | cons j idx =>
      obtain ⟨⟨o, hj, hc⟩, ho⟩ := ho
      obtain ⟨cargs, e1, e2, e3⟩ := call_op (P := C.P) hc rfl hr
      obtain ⟨d1, d2⟩ := chkOp_dst hc
      obtain ⟨r, m', a1, w1, H1, β1, q1, q2, q3, q4, q5⟩ := call_step (b := b) (cs := cs) (idx := idx) (k' := k') hj (wanted_none (chkOp_guard hc)) d2 hr hspec e1
        (by rw [e2]; have := congrArg List.length hok.args; simpa using this)
        (fun i v x h1 h2 => e3 i _ x (by rw [hok.args, List.getElem?_map, h1]; rfl) h2) hok.abel hok.len hok.nd hok.ent hok.lt hok.bel
      simp only [COp.d] at d1
      rw [← d1] at q5
      have hml : C.n0 ≤ (memAfter st.mem is m').length := by simp [memAfter]; omega
      exact .steps q2 (.ext q3 (q4.eq0 (by rw [hr.sat.hl]; exact hn)) (h r m' q1 H1 F β1 a1 w1 b cs _ (.ops ho hk) q5 hml))

theorem AW.callv {d : Option Nat} {keep : List Nat} {l : List COp} {f : FuncId} {y : Ar} {caps : List AV} {xs : List Ar} {argsC : List AV} {memC : List Ent} {R : AV → List Ent → Prop} (is : List Nat)
    (hy : ar st.env y = .fn f caps) (hspec : Spec C.P f argsC memC R) (hok : CallOk st (xs.map (ar st.env) ++ caps) argsC memC is)
    (h : ∀ r m', R r m' → AW C (.ops keep l :: k) ⟨put st.env d (r.ren (ren is st.mem.length)), memAfter st.mem is m'⟩) :
    AW C (.ops keep (.mk d none (.callv y xs) :: l) :: k) st := by
  intro H F β a w b cs todo hm hr hn
  cases hm with
  | ops ho hk =>
    rename_i os idx k'
    cases idx with
    | nil => simp [OpsM] at ho
    | cons j idx =>
      obtain ⟨⟨o, hj, hc⟩, ho⟩ := ho
      obtain ⟨cargs, e1, e2, e3⟩ := callv_op (P := C.P) hc rfl hr hy
      obtain ⟨d1, d2⟩ := chkOp_dst hc
      obtain ⟨r, m', a1, w1, H1, β1, q1, q2, q3, q4, q5⟩ := call_step (b := b) (cs := cs) (idx := idx) (k' := k') hj (wanted_none (chkOp_guard hc)) d2 hr hspec e1
        (by rw [e2, hok.args]; simp)
        (fun i v x h1 h2 => e3 i _ x (by rw [hok.args, List.getElem?_map, h1]; rfl) h2) hok.abel hok.len hok.nd hok.ent hok.lt hok.bel
      simp only [COp.d] at d1
      rw [← d1] at q5
      have hml : C.n0 ≤ (memAfter st.mem is m').length := by simp [memAfter]; omega
      exact .steps q2 (.ext q3 (q4.eq0 (by rw [hr.sat.hl]; exact hn)) (h r m' q1 H1 F β1 a1 w1 b cs _ (.ops ho hk) q5 hml))

/-- A guarded call. -/
theorem AW.callg {d : Option Nat} {keep : List Nat} {l : List COp} {t : Nat} {bb g : Bool} {f : FuncId} {xs : List Ar} {argsC : List AV} {memC : List Ent} {R : AV → List Ent → Prop} (is : List Nat)
    (ht : look st.env t = .bool g) (hspec : (g == bb) = true → Spec C.P f argsC memC R) (hok : (g == bb) = true → CallOk st (xs.map (ar st.env)) argsC memC is)
    (h : (g == bb) = true → ∀ r m', R r m' → AW C (.ops keep l :: k) ⟨put st.env d (r.ren (ren is st.mem.length)), memAfter st.mem is m'⟩)
    (h2 : (g == bb) = false → AW C (.ops keep l :: k) ⟨put st.env d .junk, st.mem⟩) :
    AW C (.ops keep (.mk d (some (t, bb)) (.call f xs) :: l) :: k) st := by
  intro H F β a w b cs todo hm hr hn
  cases hm with
  | ops ho hk =>
    rename_i os idx k'
    cases idx with
    | nil => simp [OpsM] at ho
    | cons j idx =>
      obtain ⟨⟨o, hj, hc⟩, ho⟩ := ho
      have hwant := guard_wanted hc hr ht
      obtain ⟨d1, d2⟩ := chkOp_dst hc
      simp only [COp.d] at d1
      cases hgb : (g == bb) with
      | true =>
        obtain ⟨cargs, e1, e2, e3⟩ := call_op (P := C.P) hc rfl hr
        have hok := hok hgb
        obtain ⟨r, m', a1, w1, H1, β1, q1, q2, q3, q4, q5⟩ := call_step (b := b) (cs := cs) (idx := idx) (k' := k') hj (hwant.trans hgb) d2 hr (hspec hgb) e1
          (by rw [e2]; have := congrArg List.length hok.args; simpa using this)
          (fun i v x h1 h2 => e3 i _ x (by rw [hok.args, List.getElem?_map, h1]; rfl) h2) hok.abel hok.len hok.nd hok.ent hok.lt hok.bel
        rw [← d1] at q5
        have hml : C.n0 ≤ (memAfter st.mem is m').length := by simp [memAfter]; omega
        exact .steps q2 (.ext q3 (q4.eq0 (by rw [hr.sat.hl]; exact hn)) (h hgb r m' q1 H1 F β1 a1 w1 b cs _ (.ops ho hk) q5 hml))
      | false =>
        have hs := step_op_off (P := C.P) (b := b) (a := a) (k := k') (cs := cs) (w := w) (rest := idx) hj (hwant.trans hgb)
        refine .steps (.one hs) (h2 hgb H F β _ w b cs _ (.ops ho hk) ?_ hn)
        rw [d1]
        refine rel_putd hr (.refl _) (.refl _) ?_ .junk hr.sat
        cases hd : o.dst with
        | none => rfl
        | some n => simpa using d2 n hd

end
end Go.Fw
