/- The compact operations stand for the model's: one theorem for each kind. -/
import Derived.Test.YteldjoikaepijaaFw4
namespace Go.Fw
open Go

def Good (P : Program) (H : Hp) (F : Fr) (β : Bt) (o : Oper) (a : Act) (w : World) (v : AV) (m' : List Ent) : Prop :=
  ∃ x w' H' β', ((execOp a.eval o).run P w = .ok (.value x) w' ∨ ((execOp a.eval o).run P w = .ok .skip w' ∧ x = undef)) ∧ HX F H H' ∧ BExt β β' ∧
    Rep H' β' v x ∧ Sat H' F β' m' w'

section
variable {P : Program} {H : Hp} {F : Fr} {β : Bt} {N : Nat} {st : St} {a : Act} {w : World} {o : Oper}

theorem Good.same {v : AV} {x : Value} (h : Rel H F β N st a w) (hr : (execOp a.eval o).run P w = .ok (.value x) w) (hv : Rep H β v x) :
    Good P H F β o a w v st.mem := ⟨x, w, H, β, .inl hr, .refl _ _, .refl _, hv, h.sat⟩

theorem run_size {t : TypeId} {n : Nat} (h : szB P t = some n) (w : World) : (sizeOf t).run P w = .ok n w := by
  unfold szB at h
  cases hi : P.info? t with
  | none => simp [hi] at h
  | some i => simp [hi] at h; simp [sizeOf, typeInfo, hi, h]

theorem run_agg {t : TypeId} {b : Bool} (h : aggB P t = some b) (w : World) : (isAgg t).run P w = .ok b w := by
  unfold aggB at h
  cases hu : P.underlying t with
  | none => simp [hu] at h
  | some d =>
    simp [hu] at h
    cases d <;> simp at h <;> subst h <;> simp [isAgg, run_underlying hu]

theorem under_elem {t e : TypeId} (h : elemB P t = some e) : P.underlying t = some (.slice e) := by
  unfold elemB at h
  split at h
  · cases h; assumption
  · cases h

theorem under_str {t : TypeId} (h : isStr P t = true) : P.underlying t = some .string := by
  unfold isStr at h
  split at h
  · assumption
  · cases h

theorem under_int {t : TypeId} {k : IntKind} (h : isIntK P t k = true) : P.underlying t = some (.int k) := by
  unfold isIntK at h
  split at h
  · rename_i k' e; simp at h; subst h; exact e
  · cases h

theorem under_bool {t : TypeId} (h : isBool P t = true) : P.underlying t = some .bool := by
  unfold isBool at h
  split at h
  · assumption
  · cases h

theorem field_of {t : TypeId} {f off : Nat} {t' : TypeId} (h : fieldB P t f = some (off, t')) :
    ∃ fs fd, P.underlying t = some (.struct fs) ∧ fs[f]? = some fd ∧ fd.offset = off ∧ fd.type = t' := by
  unfold fieldB at h
  split at h
  · rename_i fs e
    cases hf : fs[f]? with
    | none => simp [hf] at h
    | some fd => simp [hf] at h; exact ⟨fs, fd, e, hf, h.1, h.2⟩
  · cases h

theorem snd_mv {x : Ar} {y : Operand} (h : Rel H F β N st a w) (hc : chkAr x y = true) (ho : o.op = .move y ∨ o.op = .assign y) :
    Good P H F β o a w (ar st.env x) st.mem :=
  .same h (by rcases ho with ho | ho <;> simp [execOp, ho]) (h.ar hc)

theorem rep_bool {b : Bool} {x : Value} (r : Rep H β (.bool b) x) : x = .bool b := by cases r; rfl
theorem rep_int {k : IntKind} {n : Int} {x : Value} (r : Rep H β (.int k n) x) : x = .int k n ∧ InR k n := by cases r; exact ⟨rfl, by assumption⟩
theorem rep_str {s : List UInt8} {x : Value} (r : Rep H β (.str s) x) : x = .string ⟨s.toArray⟩ ∧ s.length ≤ BIG := by cases r; exact ⟨rfl, by assumption⟩

theorem snd_pick {c x y : Ar} {c' x' y' : Operand} {t : Bool} {p : Prop} {v : AV} (h : Rel H F β N st a w) (hc : chkAr c c' = true) (hx : chkAr x x' = true) (hy : chkAr y y' = true)
    (ho : o.op = .pick c' x' y') (ht : ar st.env c = .bool t) (hp : pickAV t (ar st.env x) (ar st.env y) = some (p, v)) (hs : p) :
    Good P H F β o a w v st.mem := by
  have r1 := h.ar hc
  have r2 := h.ar hx
  have r3 := h.ar hy
  rw [ht] at r1
  have e1 := rep_bool r1
  refine .same (x := if t then a.eval x' else a.eval y') h (by simp [execOp, ho, e1, asBool]) ?_
  unfold pickAV at hp
  split at hp
  · rename_i u z hu hz
    cases hp
    rw [hu] at r2; rw [hz] at r3
    cases t
    · simpa using r3
    · simpa using r2
  · rename_i u g z hu hz
    cases hp
    rw [hu] at r2; rw [hz] at r3
    cases t
    · cases r3 with
      | opt hh => simpa using hh (hs rfl)
    · simpa using r2
  · rename_i g u z hu hz
    cases hp
    rw [hu] at r2; rw [hz] at r3
    cases t
    · simpa using r3
    · cases r2 with
      | opt hh => simpa using hh (hs rfl)
  · rename_i u hu hz
    cases hp
    subst hs
    rw [hu] at r2
    simpa using r2
  · rename_i u hu hz
    cases hp
    subst hs
    rw [hz] at r3
    simpa using r3
  · cases hp

theorem cells_isCell {v : AV} {p : AV → Bool} (h : (v.cells.all p) = true) (hp : ∀ c, p c = true → c.isCell = true) : ∀ c ∈ v.cells, c.isCell = true := fun c hc =>
  hp c (List.all_eq_true.1 h c hc)

theorem snd_boxi {n : Nat} {x : Ar} {y : Operand} {t : TypeId} (h : Rel H F β N st a w) (hc : chkAr x y = true) (ho : o.op = .box t y)
    (hs : (ar st.env x).cells.length = n ∧ ((ar st.env x).cells.all fun c => c.isCell && c.pure) = true) :
    Good P H F β o a w (.ip (ar st.env x).cells) st.mem := by
  have r := h.ar hc
  have hcell : ∀ c ∈ (ar st.env x).cells, c.isCell = true := cells_isCell hs.2 (by simp; intros; assumption)
  have hpure : ∀ c ∈ (ar st.env x).cells, c.pure = true := fun c hc => by
    have := List.all_eq_true.1 hs.2 c hc; simp at this; exact this.2
  obtain ⟨h1, h2, h3⟩ := r.cells hcell
  have hn := h.sat.none_at_size
  refine ⟨.pointer (some ⟨w.heap.size, 0, none⟩), w.alloc (.cells (a.eval y).cells t), hset H w.heap.size (.cells (a.eval y).cells t), β, .inl ?_, HX_hset hn, .refl _, ?_, h.sat.alloc_pub _⟩
  · simp [execOp, ho, Instr.box, newVar, newRow]
  · refine .ip (fun j => (a.eval y).cells.getD j undef) (by simp [hset]; exact ⟨rfl, rfl, rfl⟩) (fun j hj => ?_) hcell fun j c hj => ?_
    · have : j < (a.eval y).cells.size := by omega
      simp [this]
    · have hj' : j < (a.eval y).cells.size := by have := (List.getElem?_eq_some_iff.1 hj).1; omega
      have hv : (a.eval y).cells[j]? = some ((a.eval y).cells.getD j undef) := by simp [hj']
      exact ((h3 j c _ hj hv).pure (hpure c (List.mem_of_getElem? hj)) []).mono (HExt_hset hn.1) (.refl _)

theorem ent_row {v : Value} {cs : List AV} (hl : v.cells.size = cs.length) (hr : ∀ (i : Nat) d x, cs[i]? = some d → v.cells[i]? = some x → Rep H β d x) :
    ∀ (i : Nat) (r : List AV) (j : Nat) (c : AV), [cs][i]? = some r → r[j]? = some c → ∃ x, v.cells[i * cs.length + j]? = some x ∧ Rep H β c x := by
  intro i r j c hi hj
  cases i with
  | zero =>
    simp at hi; subst hi
    have : j < v.cells.size := by have := (List.getElem?_eq_some_iff.1 hj).1; omega
    exact ⟨v.cells[j], by simp [this], hr j c _ hj (Array.getElem?_eq_getElem this)⟩
  | succ i => simp at hi

theorem snd_new {v : Value} {cs : List AV} {t : TypeId} (h : Rel H F β N st a w) (hl : v.cells.size = cs.length) (hcell : ∀ c ∈ cs, c.isCell = true)
    (hr : ∀ (i : Nat) d x, cs[i]? = some d → v.cells[i]? = some x → Rep H β d x)
    (hrun : (execOp a.eval o).run P w = .ok (.value (.pointer (some ⟨w.heap.size, 0, none⟩))) (w.alloc (.cells v.cells t))) :
    Good P H F β o a w (.mp st.mem.length 0 0) (st.mem ++ [.arr cs.length [cs]]) := by
  refine ⟨_, _, H, β ++ [some (w.heap.size, cs.length, 1)], .inl hrun, .refl _ _, .append _ _, ?_, ?_⟩
  · have : Rep H (β ++ [some (w.heap.size, cs.length, 1)]) (.mp st.mem.length 0 0) (.pointer (some ⟨w.heap.size, 0 * cs.length + 0, none⟩)) :=
      .mp (capT := 1) (by rw [← h.sat.hl]; simp)
    simpa using this
  · exact h.sat.alloc_own (by simp [hl]) (by simp) (by simp) (by simpa using hcell) (ent_row hl hr)

theorem snd_boxm {n : Nat} {x : Ar} {y : Operand} {t : TypeId} (h : Rel H F β N st a w) (hc : chkAr x y = true) (ho : o.op = .box t y)
    (hs : (ar st.env x).cells.length = n ∧ ((ar st.env x).cells.all AV.isCell) = true) :
    Good P H F β o a w (.mp st.mem.length 0 0) (st.mem ++ [.arr n [(ar st.env x).cells]]) := by
  have r := h.ar hc
  have hcell : ∀ c ∈ (ar st.env x).cells, c.isCell = true := fun c hc => List.all_eq_true.1 hs.2 c hc
  obtain ⟨h1, h2, h3⟩ := r.cells hcell
  obtain ⟨hs1, hs2⟩ := hs
  subst hs1
  exact snd_new (v := a.eval y) (t := t) h h1 hcell h3 (by simp [execOp, ho, Instr.box, newVar, newRow])

theorem snd_alloc {zs : List AV} {t : TypeId} (h : Rel H F β N st a w) (hz : zeroOk P t zs = true) (ho : o.op = .alloc t) :
    Good P H F β o a w (.mp st.mem.length 0 0) (st.mem ++ [.arr zs.length [zs]]) := by
  unfold zeroOk at hz
  split at hz
  · rename_i z hzz
    obtain ⟨h1, h2, h3⟩ := constOkL_rep H β zs z.cells.toList hz
    have hzv : (zeroValue t).run P w = .ok z w := by
      cases hi : P.info? t with
      | none => simp [hi] at hzz
      | some i => simp [hi] at hzz; simp [zeroValue, typeInfo, hi, hzz]
    exact snd_new (v := z) (t := t) h (by simpa using h1.symm) h2 (fun i d x hd hx => h3 i d x hd (by simpa using hx))
      (by simp [execOp, ho, Instr.alloc, hzv, newVar, newRow])
  · cases hz

/-- Where a pointer into an owned row points. -/
theorem Sat.row {i r es : Nat} {rows : List (List AV)} {row : List AV} {b cap es' : Nat} (h : Sat H F β st.mem w) (hi : st.mem[i]? = some (.arr es rows)) (hr : rows[r]? = some row)
    (hb : β[i]? = some (some (b, es', cap))) :
    es' = es ∧ ∃ cells elem, w.heap[b]? = some (.cells cells elem (0, 0)) ∧ cells.size = cap * es ∧ rows.length ≤ cap ∧ row.length = es ∧
      ∀ (j : Nat) c, row[j]? = some c → c.isCell = true ∧ ∃ v, cells[r * es + j]? = some v ∧ Rep H β c v := by
  obtain ⟨h1, cells, elem, h2, h3, h4, h5, h6, h7⟩ := h.ent i _ _ hi hb
  exact ⟨h1, cells, elem, h2, h3, h4, h5 row (List.mem_of_getElem? hr), fun j c hj => ⟨h6 row (List.mem_of_getElem? hr) c (List.mem_of_getElem? hj), h7 r row j c hr hj⟩⟩

/-- As 'Good', and the world stays. -/
def GoodS (P : Program) (H : Hp) (β : Bt) (o : Oper) (a : Act) (w : World) (v : AV) : Prop := ∃ x, (execOp a.eval o).run P w = .ok (.value x) w ∧ Rep H β v x
theorem GoodS.good {v : AV} (g : GoodS P H β o a w v) (h : Rel H F β N st a w) : Good P H F β o a w v st.mem := let ⟨_, h1, h2⟩ := g; .same h h1 h2

theorem load_cell {b o : Nat} {cells : Array Value} {elem : TypeId} {fz : Nat × Nat} {v : Value} (hb : w.heap[b]? = some (.cells cells elem fz)) (hv : cells[o]? = some v) :
    w.cell? ⟨b, o, none⟩ = some v := by rw [cell_of_row w b o cells elem fz hb]; exact hv

theorem snd_load_none_ip {x : Ar} {y : Operand} {t : TypeId} {c : AV} {cs : List AV} (h : Rel H F β N st a w) (hc : chkAr x y = true) (ho : o.op = .load t y) (ha : aggB P t = some false)
    (hx : ar st.env x = .ip (c :: cs)) : GoodS P H β o a w c := by
  have r := h.ar hc
  rw [hx] at r
  generalize he : a.eval y = av at r
  cases r with
  | @ip _ _ b o' cells elem fz f hH hcs hcell hrep =>
    have h0 := hcs 0 (by simp)
    have hl := load_cell (w := w) (h.sat.hH _ _ hH) h0
    refine Exists.intro (f 0) ⟨?_, ((hrep 0 c rfl).mono (.refl _) (by intro i x hx; simp at hx))⟩
    simp only [Nat.add_zero] at hl
    simp [execOp, ho, he, Instr.loadAt, Instr.sureAddr, loadVar, run_agg ha, hl]

theorem snd_load_none_mp {x : Ar} {y : Operand} {t : TypeId} {c : AV} {i r off es : Nat} {rows : List (List AV)} {row : List AV} (h : Rel H F β N st a w) (hc : chkAr x y = true) (ho : o.op = .load t y)
    (ha : aggB P t = some false) (hx : ar st.env x = .mp i r off) (hi : st.mem[i]? = some (.arr es rows)) (hr : rows[r]? = some row) (hj : row[off]? = some c) : GoodS P H β o a w c := by
  have rp := h.ar hc
  rw [hx] at rp
  generalize he : a.eval y = av at rp
  cases rp with
  | @mp _ _ _ _ b es' capT hβ =>
    obtain ⟨rfl, cells, elem, h2, h3, h4, h5, h6⟩ := Sat.row h.sat hi hr hβ
    obtain ⟨_, v, hv, hrep⟩ := h6 off c hj
    have hl := load_cell (w := w) h2 hv
    refine Exists.intro (v) ⟨?_, hrep⟩
    simp [execOp, ho, he, Instr.loadAt, Instr.sureAddr, loadVar, run_agg ha, hl]

theorem snd_load_some_ip {x : Ar} {y : Operand} {t : TypeId} {n : Nat} {cs : List AV} (h : Rel H F β N st a w) (hc : chkAr x y = true) (ho : o.op = .load t y) (ha : aggB P t = some true) (hz : szB P t = some n)
    (hx : ar st.env x = .ip cs) (hn : n ≤ cs.length) : GoodS P H β o a w (.agg (cs.take n)) := by
  have r := h.ar hc
  rw [hx] at r
  generalize he : a.eval y = av at r
  cases r with
  | @ip _ _ b o' cells elem fz f hH hcs hcell hrep =>
    have hl := run_loadCells (P := P) w ⟨b, o', none⟩ n f (fun j hj => by
      rw [addr_add]; exact load_cell (h.sat.hH _ _ hH) (hcs j (by omega)))
    refine Exists.intro (.agg ((List.range n).map f).toArray) ⟨?_, (.agg ?_ (fun c hc => hcell c (List.mem_of_mem_take hc)) fun i c v hi hv => ?_)⟩
    · simp [execOp, ho, he, Instr.loadAt, Instr.sureAddr, loadVar, run_agg ha, run_size hz, hl]
    · simp; omega
    · have hin : i < n := by have := (List.getElem?_eq_some_iff.1 hi).1; simp at this; omega
      have hi' : cs[i]? = some c := by rw [List.getElem?_take] at hi; simpa [hin] using hi
      simp [hin] at hv
      subst hv
      exact (hrep i c hi').mono (.refl _) (by intro i x hx; simp at hx)

theorem snd_load_some_mp {x : Ar} {y : Operand} {t : TypeId} {n i r off es : Nat} {rows : List (List AV)} {row : List AV} (h : Rel H F β N st a w) (hc : chkAr x y = true) (ho : o.op = .load t y)
    (ha : aggB P t = some true) (hz : szB P t = some n) (hx : ar st.env x = .mp i r off) (hi : st.mem[i]? = some (.arr es rows)) (hr : rows[r]? = some row) (hn : off + n ≤ row.length) :
    GoodS P H β o a w (.agg ((row.drop off).take n)) := by
  have rp := h.ar hc
  rw [hx] at rp
  generalize he : a.eval y = av at rp
  cases rp with
  | @mp _ _ _ _ b es' capT hβ =>
    obtain ⟨rfl, cells, elem, h2, h3, h4, h5, h6⟩ := Sat.row h.sat hi hr hβ
    obtain ⟨vs, hvl, hvs⟩ := exists_list (p := fun j v => cells[r * es' + (off + j)]? = some v ∧ ∀ c, row[off + j]? = some c → c.isCell = true ∧ Rep H β c v) n (fun j hj => by
      have hlt : off + j < row.length := by omega
      obtain ⟨hc1, v, hv, hrep⟩ := h6 (off + j) row[off + j] (List.getElem?_eq_getElem hlt)
      exact ⟨v, hv, fun c hc => by rw [List.getElem?_eq_getElem hlt] at hc; cases hc; exact ⟨hc1, hrep⟩⟩)
    have hl := run_loadCells_list (P := P) w ⟨b, r * es' + off, none⟩ vs (fun j v hj => by
      rw [addr_add]; refine load_cell h2 ?_; rw [Nat.add_assoc]; exact (hvs j v hj).1)
    rw [hvl] at hl
    refine Exists.intro (.agg vs.toArray) ⟨?_, (.agg ?_ (fun c hc => ?_) fun k c v hk hv => ?_)⟩
    · simp [execOp, ho, he, Instr.loadAt, Instr.sureAddr, loadVar, run_agg ha, run_size hz, hl]
    · simp; omega
    · obtain ⟨k, hk, rfl⟩ := List.getElem_of_mem hc
      simp at hk
      simp only [List.getElem_take, List.getElem_drop]
      exact (h6 (off + k) _ (List.getElem?_eq_getElem (by omega))).1
    · have hkn : k < n := by have := (List.getElem?_eq_some_iff.1 hk).1; simp at this; omega
      rw [List.getElem?_take] at hk
      simp [hkn] at hk
      exact ((hvs k v (by simpa using hv)).2 c hk).2

end
end Go.Fw
