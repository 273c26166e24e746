/- The compact operations stand for the model's, fourth part: slices that are made, cut, and grown. -/
import Derived.Test.YteldjoikaepijaaFw7
namespace Go.Fw
open Go

theorem fill_rows {es : Nat} : ∀ (ps : List (Nat × Value)) (n0 : Nat) (cells : Array Value), (∀ (k : Nat) p, ps[k]? = some p → p.1 = n0 + k ∧ p.2.cells.size = es) → (n0 + ps.length) * es ≤ cells.size →
    ∃ cells', Instr.fill (fun i => some (i * es, es)) cells ps = some cells' ∧ cells'.size = cells.size ∧ (∀ j, j < n0 * es → cells'[j]? = cells[j]?) ∧
      ∀ (k : Nat) p j, ps[k]? = some p → j < es → cells'[(n0 + k) * es + j]? = p.2.cells[j]?
  | [], n0, cells, _, _ => ⟨cells, rfl, rfl, fun _ _ => rfl, fun k p j hp => by simp at hp⟩
  | (i, v) :: ps, n0, cells, h, hl => by
    obtain ⟨h1, h2⟩ := h 0 (i, v) rfl
    simp only [Nat.add_zero] at h1 h2
    subst h1
    have hroom : (i + 1) * es ≤ cells.size := by
      have : (i + 1) * es ≤ (i + ((i, v) :: ps).length) * es := Nat.mul_le_mul_right _ (by simp)
      omega
    have hro2 : i * es + es ≤ cells.size := by rw [Nat.add_mul] at hroom; omega
    have hsz := foldl_set_size v.cells.toList 0 cells (i * es)
    obtain ⟨cells', e1, e2, e3, e4⟩ := fill_rows (es := es) ps (i + 1) (v.cells.zipIdx.foldl (fun cs (c, j) => cs.setIfInBounds (i * es + j) c) cells)
      (fun k p hp => by obtain ⟨a, b⟩ := h (k + 1) p (by simpa using hp); exact ⟨by omega, b⟩)
      (by rw [← Array.foldl_toList, Array.toList_zipIdx, hsz]; simp at hl ⊢; rw [show i + 1 + ps.length = i + (ps.length + 1) by omega]; exact hl)
    have hs2 : (v.cells.zipIdx.foldl (fun cs (c, j) => cs.setIfInBounds (i * es + j) c) cells).size = cells.size := by
      rw [← Array.foldl_toList, Array.toList_zipIdx]; exact hsz
    have hg : ∀ k, (v.cells.zipIdx.foldl (fun cs (c, j) => cs.setIfInBounds (i * es + j) c) cells)[k]? = if i * es ≤ k ∧ k < i * es + es then v.cells[k - i * es]? else cells[k]? := by
      intro k
      have := foldl_set v.cells.toList 0 cells (i * es) k
      rw [← Array.foldl_toList, Array.toList_zipIdx, this]
      simp only [Nat.add_zero, Array.length_toList, h2]
      by_cases hk : i * es ≤ k ∧ k < i * es + es
      · rw [if_pos hk, if_pos (by omega)]; simp
      · rw [if_neg hk, if_neg (by omega)]
    refine ⟨cells', ?_, by rw [e2, hs2], fun j hj => ?_, fun k p j hp hj => ?_⟩
    · rw [Instr.fill]
      simp only [h2]
      rw [if_neg (by simp; omega)]
      exact e1
    · rw [e3 j (by rw [Nat.add_mul]; omega), hg, if_neg (by omega)]
    · cases k with
      | zero =>
        simp at hp; subst hp
        rw [Nat.add_zero, e3 _ (by rw [Nat.add_mul]; omega), hg, if_pos (by omega)]
        simp
      | succ k =>
        have := e4 k p j (by simpa using hp) hj
        rw [show i + (k + 1) = i + 1 + k by omega]; exact this

section
variable {P : Program} {H : Hp} {F : Fr} {β : Bt} {N : Nat} {st : St} {a : Act} {w : World} {o : Oper}

theorem run_bsl {t e : TypeId} {es n : Nat} {ps : Array (Nat × Operand)} {parts : List Ar} (h : Rel H F β N st a w) (he : elemB P t = some e) (hz : szB P e = some es)
    (hzz : (P.info? e).any (·.zero.isSome) = true) (hn : n = parts.length) (h0 : 0 < es) (hlim : n * es ≤ 16777216) (hps : chkList 0 parts ps.toList = true) (ho : o.op = .buildSlice t n ps)
    (hs : ∀ x ∈ parts, (ar st.env x).cells.length = es ∧ ∀ c ∈ (ar st.env x).cells, c.isCell = true) :
    ∃ cells : Array Value, (execOp a.eval o).run P w = .ok (.value (.slice (some ⟨w.heap.size, 0, none⟩) n n)) (w.alloc (.cells cells e)) ∧ cells.size = n * es ∧
      ∀ (i : Nat) (r : List AV) (j : Nat) (c : AV), (parts.map fun x => (ar st.env x).cells)[i]? = some r → r[j]? = some c → c.isCell = true ∧ ∃ v, cells[i * es + j]? = some v ∧ Rep H β c v := by
  obtain ⟨g1, g2⟩ := chkList_get _ _ _ hps
  have hzv : ∃ z, (zeroValue e).run P w = .ok z w := by
    cases hi : P.info? e with
    | none => simp [hi] at hzz
    | some i =>
      simp [hi] at hzz
      obtain ⟨z, hz'⟩ := Option.isSome_iff_exists.1 hzz
      exact ⟨z, by simp [zeroValue, typeInfo, hi, hz']⟩
  obtain ⟨z, hzv⟩ := hzv
  have key : ∀ init : Array Value, init.size = n * es → ∃ cells, Instr.fill (fun i => some (i * es, es)) init (ps.map fun (i, x) => (i, a.eval x)).toList = some cells ∧ cells.size = n * es ∧
      ∀ (k : Nat) p j, (ps.map fun (i, x) => (i, a.eval x)).toList[k]? = some p → j < es → cells[k * es + j]? = p.2.cells[j]? := by
    intro init hinit
    obtain ⟨cells, f1, f2, f3, f4⟩ := fill_rows (es := es) (ps.map fun (i, x) => (i, a.eval x)).toList 0 init (fun k p hp => by
      simp only [Array.toList_map, List.getElem?_map, Option.map_eq_some_iff] at hp
      obtain ⟨⟨i, y⟩, hp, rfl⟩ := hp
      have hlt : k < parts.length := by have := (List.getElem?_eq_some_iff.1 hp).1; omega
      obtain ⟨q1, q2⟩ := g2 k parts[k] (i, y) (List.getElem?_eq_getElem hlt) hp
      obtain ⟨s1, s2⟩ := hs parts[k] (List.getElem_mem hlt)
      exact ⟨by simpa using q1, by rw [((h.ar q2).cells s2).1, s1]⟩) (by simp at g1 ⊢; rw [hinit, hn, ← g1]; exact Nat.le_refl _)
    exact ⟨cells, f1, by rw [f2, hinit], fun k p j hp hj => by have := f4 k p j hp hj; simpa using this⟩
  have hrow : ∀ cells : Array Value, (∀ (k : Nat) p j, (ps.map fun (i, x) => (i, a.eval x)).toList[k]? = some p → j < es → cells[k * es + j]? = p.2.cells[j]?) →
      ∀ (i : Nat) (r : List AV) (j : Nat) (c : AV), (parts.map fun x => (ar st.env x).cells)[i]? = some r → r[j]? = some c → c.isCell = true ∧ ∃ v, cells[i * es + j]? = some v ∧ Rep H β c v := by
    intro cells hc i r j c hi hj
    rw [List.getElem?_map, Option.map_eq_some_iff] at hi
    obtain ⟨x, hx, rfl⟩ := hi
    obtain ⟨s1, s2⟩ := hs x (List.mem_of_getElem? hx)
    have hlt : i < ps.toList.length := by rw [g1]; exact (List.getElem?_eq_some_iff.1 hx).1
    obtain ⟨q1, q2⟩ := g2 i x ps.toList[i] hx (List.getElem?_eq_getElem hlt)
    have hjl : j < es := by have := (List.getElem?_eq_some_iff.1 hj).1; omega
    have hr := (h.ar q2).cells s2
    have hjv : j < (a.eval ps.toList[i].2).cells.size := by rw [hr.1]; omega
    refine ⟨s2 c (List.mem_of_getElem? hj), (a.eval ps.toList[i].2).cells[j], ?_, hr.2.2 j c _ hj (Array.getElem?_eq_getElem hjv)⟩
    rw [hc i (ps.toList[i].1, a.eval ps.toList[i].2) j (by simp [List.getElem?_map, List.getElem?_eq_getElem hlt]) hjl]
    exact Array.getElem?_eq_getElem hjv
  have hlim' : ¬ (16777216 < n * es) := by omega
  by_cases hn0 : n * es = 0
  · obtain ⟨cells, f1, f2, f3⟩ := key #[] (by simp [hn0])
    refine ⟨cells, ?_, f2, hrow cells f3⟩
    have f1' : Instr.fill (fun i => some (i * es, es)) #[] (ps.toList.map fun x => (x.1, a.eval x.2)) = some cells := by simpa using f1
    have hn0' : n = 0 := by
      rcases Nat.mul_eq_zero.1 hn0 with h | h
      · exact h
      · omega
    subst hn0'
    simp only [execOp, ho, Instr.buildSlice, run_underlying (under_elem he), run_size hz, Sem.run_bind, Result.andThen_ok, Sem.run_pure]
    rw [if_neg (by omega)]
    simp only [hn0, if_true, Sem.run_bind, Result.andThen_ok, Sem.run_pure, Array.toList_map]
    have hr0 : (Array.range 0).map ((#[] : Array Value)[· % (#[] : Array Value).size]!) = #[] := by
      apply Array.eq_empty_of_size_eq_zero; simp
    rw [hr0, f1']
    simp [newRow]
  · obtain ⟨cells, f1, f2, f3⟩ := key ((Array.range (n * es)).map (z.cells[· % z.cells.size]!)) (by simp)
    refine ⟨cells, ?_, f2, hrow cells f3⟩
    have f1' : Instr.fill (fun i => some (i * es, es)) ((Array.range (n * es)).map (z.cells[· % z.cells.size]!)) (ps.toList.map fun x => (x.1, a.eval x.2)) = some cells := by simpa using f1
    simp only [execOp, ho, Instr.buildSlice, run_underlying (under_elem he), run_size hz, Sem.run_bind, Result.andThen_ok, Sem.run_pure]
    rw [if_neg (by omega)]
    simp only [hn0, if_false, Sem.run_bind, hzv, Result.andThen_ok, Sem.run_pure, Array.toList_map]
    rw [f1']
    simp [newRow]

theorem snd_bsl {t e : TypeId} {es n : Nat} {ps : Array (Nat × Operand)} {parts : List Ar} (h : Rel H F β N st a w) (he : elemB P t = some e) (hz : szB P e = some es)
    (hzz : (P.info? e).any (·.zero.isSome) = true) (hn : n = parts.length) (h0 : 0 < es) (hlim : n * es ≤ 16777216) (hps : chkList 0 parts ps.toList = true) (ho : o.op = .buildSlice t n ps)
    (hs : (parts.all fun x => (ar st.env x).cells.length == es && (ar st.env x).cells.all fun c => c.isCell && c.pure) = true) :
    Good P H F β o a w (.sl es (parts.map fun x => (ar st.env x).cells)) st.mem := by
  have hs' : ∀ x ∈ parts, (ar st.env x).cells.length = es ∧ ∀ c ∈ (ar st.env x).cells, c.isCell = true ∧ c.pure = true := by
    intro x hx
    have := List.all_eq_true.1 hs x hx
    simp only [Bool.and_eq_true, beq_iff_eq, List.all_eq_true] at this
    exact this
  obtain ⟨cells, r1, r2, r3⟩ := run_bsl h he hz hzz hn h0 hlim hps ho fun x hx => ⟨(hs' x hx).1, fun c hc => ((hs' x hx).2 c hc).1⟩
  have hne := h.sat.none_at_size
  have hpl : n ≤ 16777216 := by
    have : n * 1 ≤ n * es := Nat.mul_le_mul_left _ h0
    omega
  refine ⟨_, _, hset H w.heap.size (.cells cells e), β, .inl r1, HX_hset hne, .refl _, ?_, h.sat.alloc_pub _⟩
  refine .sl w.heap.size 0 cells (fun i j => cells.getD (i * es + j) undef) (by simp [hn]) (Nat.le_refl _) (by unfold BIG; omega) ?_ (fun _ => ⟨rfl, e, (0, 0), by simp [hset]⟩) ?_ ?_ ?_
  · intro r hr
    obtain ⟨x, hx, rfl⟩ := List.mem_map.1 hr
    exact (hs' x hx).1
  · intro i j hi hj
    simp at hi
    have hlt : i * es + j < cells.size := by
      rw [r2]
      have : (i + 1) * es ≤ n * es := Nat.mul_le_mul_right _ (by omega)
      rw [Nat.add_mul] at this; omega
    simp [hlt]
  · intro r hr c hc
    obtain ⟨x, hx, rfl⟩ := List.mem_map.1 hr
    exact ((hs' x hx).2 c hc).1
  · intro i r j c hi hj
    obtain ⟨_, v, hv, hrep⟩ := r3 i r j c hi hj
    have hv' : cells.getD (i * es + j) undef = v := by simp [hv]
    rw [hv']
    refine (hrep.pure ?_ []).mono (HExt_hset hne.1) (.refl _)
    rw [List.getElem?_map, Option.map_eq_some_iff] at hi
    obtain ⟨x, hx, rfl⟩ := hi
    exact ((hs' x (List.mem_of_getElem? hx)).2 c (List.mem_of_getElem? hj)).2

theorem snd_bslm {t e : TypeId} {es n : Nat} {ps : Array (Nat × Operand)} {parts : List Ar} (h : Rel H F β N st a w) (he : elemB P t = some e) (hz : szB P e = some es)
    (hzz : (P.info? e).any (·.zero.isSome) = true) (hn : n = parts.length) (h0 : 0 < es) (hlim : n * es ≤ 16777216) (hps : chkList 0 parts ps.toList = true) (ho : o.op = .buildSlice t n ps)
    (hs : (parts.all fun x => (ar st.env x).cells.length == es && (ar st.env x).cells.all AV.isCell) = true) :
    Good P H F β o a w (.ms st.mem.length es 0 parts.length) (st.mem ++ [.arr es (parts.map fun x => (ar st.env x).cells)]) := by
  have hs' : ∀ x ∈ parts, (ar st.env x).cells.length = es ∧ ∀ c ∈ (ar st.env x).cells, c.isCell = true := by
    intro x hx
    have := List.all_eq_true.1 hs x hx
    simp only [Bool.and_eq_true, beq_iff_eq, List.all_eq_true] at this
    exact this
  obtain ⟨cells, r1, r2, r3⟩ := run_bsl h he hz hzz hn h0 hlim hps ho hs'
  have hpl : n ≤ 16777216 := by
    have : n * 1 ≤ n * es := Nat.mul_le_mul_left _ h0
    omega
  refine ⟨_, _, H, β ++ [some (w.heap.size, es, n)], .inl r1, .refl _ _, .append _ _, ?_, h.sat.alloc_own r2 (by simp [hn]) ?_ ?_ fun i r j c hi hj => (r3 i r j c hi hj).2⟩
  · have : Rep H (β ++ [some (w.heap.size, es, n)]) (.ms st.mem.length es 0 n) (.slice (some ⟨w.heap.size, 0 * es, none⟩) n n) :=
      .ms (b := w.heap.size) (capT := n) (by rw [← h.sat.hl]; simp) (by omega) (Nat.le_refl _) (by unfold BIG; omega)
    rw [← hn]; simpa using this
  · intro r hr
    obtain ⟨x, hx, rfl⟩ := List.mem_map.1 hr
    exact (hs' x hx).1
  · intro r hr c hc
    obtain ⟨x, hx, rfl⟩ := List.mem_map.1 hr
    exact (hs' x hx).2 c hc

theorem snd_bsl0 {t e : TypeId} {es : Nat} {ps : Array (Nat × Operand)} (h : Rel H F β N st a w) (he : elemB P t = some e) (hz : szB P e = some es) (hps : ps.size = 0) (ho : o.op = .buildSlice t 0 ps) :
    Good P H F β o a w .e0 st.mem := by
  have hne := h.sat.none_at_size
  have hp0 : ps = #[] := Array.eq_empty_of_size_eq_zero hps
  refine ⟨.slice (some ⟨w.heap.size, 0, none⟩) 0 0, w.alloc (.cells #[] e), hset H w.heap.size (.cells #[] e), β, .inl ?_, HX_hset hne, .refl _, .e0, h.sat.alloc_pub _⟩
  subst hp0
  have hr0 : Array.map (fun _ => (default : Value)) (Array.range 0) = #[] := by apply Array.eq_empty_of_size_eq_zero; simp
  simp [execOp, ho, Instr.buildSlice, run_underlying (under_elem he), run_size hz, newRow, Instr.fill, hr0]

/-! ### Cuts -/

theorem bnd_some {env : List (Nat × AV)} {d n : Int} {x : Option Ar} {y : Option Operand} (h : Rel H F β N st a w) (he : env = st.env) (hc : chkO x y = true) (hb : bnd env d x = some n) :
    (x = none ∧ y = none ∧ n = d) ∨ (∃ a' b' k, x = some a' ∧ y = some b' ∧ a.eval b' = .int k n) := by
  subst he
  cases x with
  | none =>
    cases y with
    | none => simp [bnd] at hb; exact .inl ⟨rfl, rfl, hb.symm⟩
    | some _ => simp [chkO] at hc
  | some a' =>
    cases y with
    | none => simp [chkO] at hc
    | some b' =>
      simp only [chkO] at hc
      simp only [bnd] at hb
      split at hb
      · rename_i k m hk
        cases hb
        have r := h.ar hc
        rw [hk] at r
        exact .inr ⟨a', b', k, rfl, rfl, (rep_int r).1⟩
      · cases hb

theorem run_bounds {lo hi : Option Ar} {lo' hi' : Option Operand} {l u : Int} {len cap : Nat} {sl : Bool} (h : Rel H F β N st a w) (h1 : chkO lo lo' = true) (h2 : chkO hi hi' = true)
    (hl : bnd st.env 0 lo = some l) (hu : bnd st.env len hi = some u) (hlen : len ≤ cap) (h0 : 0 ≤ l) (hlu : l ≤ u) (hul : u ≤ len) :
    (Instr.sliceBounds sl len cap (lo'.map a.eval) (hi'.map a.eval) none).run P w = .ok (l.toNat, u.toNat, cap) w := by
  have e2 : ((u.toNat : Nat) : Int) = u := Int.toNat_of_nonneg (by omega)
  rcases bnd_some h rfl h1 hl with ⟨rfl, rfl, rfl⟩ | ⟨x1, y1, k1, rfl, rfl, e1⟩ <;> rcases bnd_some h rfl h2 hu with ⟨rfl, rfl, rfl⟩ | ⟨x2, y2, k2, rfl, rfl, e3⟩
  · simp [Instr.sliceBounds]
  · simp [Instr.sliceBounds, e3, run_sliceBound, show 0 ≤ u by omega, show u ≤ (cap : Int) by omega]
  · simp [Instr.sliceBounds, e1, run_sliceBound, h0, show l ≤ (len : Int) by omega]
  · simp [Instr.sliceBounds, e1, e3, run_sliceBound, h0, show 0 ≤ u by omega, show u ≤ (cap : Int) by omega, e2, hlu]

theorem snd_slc {x : Ar} {y : Operand} {lo hi : Option Ar} {lo' hi' : Option Operand} {t e : TypeId} {sz : Nat} {l u : Int} (h : Rel H F β N st a w) (hc : chkAr x y = true) (h1 : chkO lo lo' = true) (h2 : chkO hi hi' = true)
    (ho : o.op = .slice t y lo' hi' none) (he : elemB P t = some e) (hz : szB P e = some sz) (hl : bnd st.env 0 lo = some l) :
    (∀ es rows, sz = es → ar st.env x = .sl es rows → bnd st.env rows.length hi = some u → 0 ≤ l ∧ l ≤ u ∧ u ≤ rows.length → Good P H F β o a w (.sl es ((rows.drop l.toNat).take (u.toNat - l.toNat))) st.mem) ∧
    (∀ i es off len, sz = es → ar st.env x = .ms i es off len → bnd st.env len hi = some u → 0 ≤ l ∧ l ≤ u ∧ u ≤ len → Good P H F β o a w (.ms i es (off + l.toNat) (u.toNat - l.toNat)) st.mem) ∧
    (ar st.env x = .e0 → bnd st.env 0 hi = some u → l = 0 ∧ u = 0 → Good P H F β o a w .e0 st.mem) := by
  have run : ∀ b len cap, a.eval y = .slice b len cap → bnd st.env len hi = some u → len ≤ cap → 0 ≤ l → l ≤ u → u ≤ len →
      (execOp a.eval o).run P w = .ok (.value (.slice (if cap = l.toNat then b else b.map (·.add (l.toNat * sz))) (u.toNat - l.toNat) (cap - l.toNat))) w := by
    intro b len cap hy hu hlc h0 hlu hul
    have hb := run_bounds (P := P) (sl := true) h h1 h2 hl hu hlc h0 hlu hul
    simp [execOp, ho, Instr.sliceAt, run_underlying (under_elem he), Instr.slice, hy, hb, run_size hz]
  have r := h.ar hc
  refine ⟨fun es rows hes hx hu ⟨g0, g1, g2⟩ => ?_, fun i es off len hes hx hu ⟨g0, g1, g2⟩ => ?_, fun hx hu ⟨g0, g1⟩ => ?_⟩
  · subst hes
    rw [hx] at r
    generalize hy : a.eval y = av at r
    cases r with
    | @sl _ _ _ a' len cap b o' cells f hlen hcap hbig hes hblk hcs hcell hrep =>
      subst hlen
      refine .same h (run _ _ _ hy hu hcap g0 g1 g2) (.sl b (o' + l.toNat * sz) cells (fun i j => f (l.toNat + i) j) ?_ (by omega) (by omega) (fun q hq => hes q (List.mem_of_mem_drop (List.mem_of_mem_take hq)))
        (fun hne => ?_) (fun i j hi hj => ?_) (fun q hq => hcell q (List.mem_of_mem_drop (List.mem_of_mem_take hq))) fun i q j c hi hj => ?_)
      · simp; omega
      · have hlt : l.toNat < rows.length := by
          rcases Nat.lt_or_ge l.toNat rows.length with h | h
          · exact h
          · exact absurd (by simp [List.drop_eq_nil_of_le h]) hne
        obtain ⟨rfl, elem, fz, hH⟩ := hblk (by intro e; subst e; simp at hlt)
        refine ⟨?_, elem, fz, hH⟩
        rw [if_neg (by omega)]
        simp [addr_add]
      · simp at hi
        have := hcs (l.toNat + i) j (by omega) hj
        rw [← this, Nat.add_mul]
        congr 1; omega
      · rw [List.getElem?_take] at hi
        split at hi
        · rw [List.getElem?_drop] at hi
          exact hrep (l.toNat + i) q j c hi hj
        · cases hi
  · subst hes
    rw [hx] at r
    generalize hy : a.eval y = av at r
    cases r with
    | @ms _ _ _ _ _ b capT cap hβ hcap hlen hbig =>
      have rr := run _ _ _ hy hu hlen g0 g1 g2
      by_cases hcl : cap = l.toNat
      · rw [if_pos hcl, show u.toNat - l.toNat = 0 by omega, show cap - l.toNat = 0 by omega] at rr
        rw [show u.toNat - l.toNat = 0 by omega]
        exact .same h rr (.ms0 hβ)
      · rw [if_neg hcl] at rr
        have e1 : off * sz + l.toNat * sz = (off + l.toNat) * sz := by rw [Nat.add_mul]
        simp only [Option.map_some, addr_add, e1] at rr
        exact .same h rr (.ms hβ (by omega) (by omega) (by omega))
    | ms0 hβ =>
      have rr := run _ _ _ hy hu (Nat.le_refl _) g0 g1 g2
      rw [show u.toNat - l.toNat = 0 by omega] at rr ⊢
      rw [show 0 - l.toNat = 0 by omega] at rr
      exact .same h rr (.ms0 hβ)
  · rw [hx] at r
    generalize hy : a.eval y = av at r
    cases r with
    | e0 =>
      have rr := run _ 0 0 hy (by simpa using hu) (Nat.le_refl _) (by omega) (by omega) (by omega)
      rw [show u.toNat - l.toNat = 0 by omega, show 0 - l.toNat = 0 by omega] at rr
      exact .same h rr .e0

theorem snd_sub {x : Ar} {y : Operand} {lo hi : Option Ar} {lo' hi' : Option Operand} {t : TypeId} {l u : Int} {s : List UInt8} (h : Rel H F β N st a w) (hc : chkAr x y = true) (h1 : chkO lo lo' = true) (h2 : chkO hi hi' = true)
    (ho : o.op = .slice t y lo' hi' none) (ht : isStr P t = true) (hl : bnd st.env 0 lo = some l) (hx : ar st.env x = .str s) (hu : bnd st.env s.length hi = some u) (hs : 0 ≤ l ∧ l ≤ u ∧ u ≤ s.length) :
    Good P H F β o a w (.str ((s.drop l.toNat).take (u.toNat - l.toNat))) st.mem := by
  obtain ⟨g0, g1, g2⟩ := hs
  have r := h.ar hc; rw [hx] at r; obtain ⟨e, hbig⟩ := rep_str r
  have hsz : (ByteArray.mk s.toArray).size = s.length := by simp [ByteArray.size]
  have hb := run_bounds (P := P) (sl := false) h h1 h2 hl hu (Nat.le_refl _) g0 g1 g2
  rw [← hsz] at hb
  refine .same (x := .string ⟨((s.drop l.toNat).take (u.toNat - l.toNat)).toArray⟩) h ?_ (.str (by simp; omega))
  have hex : (ByteArray.mk s.toArray).extract l.toNat u.toNat = ⟨((s.drop l.toNat).take (u.toNat - l.toNat)).toArray⟩ := by
    apply ByteArray.ext
    simp [List.extract_eq_take_drop]
  simp [execOp, ho, Instr.sliceAt, run_underlying (under_str ht), Instr.slice, e, hb, hex]

end
end Go.Fw
