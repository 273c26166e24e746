/- The compact operations stand for the model's, fifth part: append, bytes, make. -/
import Derived.Test.YteldjoikaepijaaFw8
import Derived.Laws.AppendOwn
import Derived.Laws.MakeOwn
namespace Go.Fw
open Go
section
variable {P : Program} {H : Hp} {F : Fr} {β : Bt} {N : Nat} {st : St} {a : Act} {w : World} {o : Oper}

theorem divmod {p n es : Nat} (h0 : 0 < es) (hp : p < n * es) : p / es < n ∧ p % es < es ∧ p / es * es + p % es = p :=
  ⟨(Nat.div_lt_iff_lt_mul h0).2 hp, Nat.mod_lt _ h0, by rw [Nat.mul_comm]; exact Nat.div_add_mod p es⟩

/-- What a slice shows, as append reads it. -/
theorem src_rep {es : Nat} {y : AV} {v : Value} {ys : List (List AV)} (hs : Sat H F β st.mem w) (h0 : 0 < es) (hr : Rep H β y v) (hy : rowsOf st.mem es y = some ys) :
    ∃ news : List Value, news.length = ys.length * es ∧ (∀ w2 : World, (Builtin.lenOf v).run P w2 = .ok ys.length w2) ∧
      (∀ w2 : World, w2.heap = w.heap → (Builtin.firstCells es ys.length v).run P w2 = .ok news.toArray w2) ∧ (∃ b l c, v = .slice b l c) ∧
      (∀ r ∈ ys, r.length = es) ∧ (∀ r ∈ ys, ∀ c ∈ r, c.isCell = true) ∧
      ∀ (i : Nat) (r : List AV) (j : Nat) (c : AV), ys[i]? = some r → r[j]? = some c → ∃ x, news[i * es + j]? = some x ∧ Rep H β c x := by
  cases hr with
  | e0 =>
    simp [rowsOf] at hy; subst hy
    rename_i b
    refine ⟨[], by simp, fun w2 => by simp [Builtin.lenOf], fun w2 _ => ?_, ⟨_, _, _, rfl⟩, by simp, by simp, by simp⟩
    cases b <;> simp [Builtin.firstCells, loadCells, loadCellsFrom]
  | @sl _ es' rows a' len cap b o' cells f hlen hcap hbig hes hblk hcs hcell hrep =>
    simp only [rowsOf] at hy
    split at hy
    · rename_i hee
      cases hy; subst hee; subst hlen
      by_cases hne : ys = []
      · subst hne
        refine ⟨[], by simp, fun w2 => by simp [Builtin.lenOf], fun w2 _ => ?_, ⟨_, _, _, rfl⟩, by simp, by simp, by simp⟩
        cases a' <;> simp [Builtin.firstCells, loadCells, loadCellsFrom]
      · obtain ⟨rfl, elem, fz, hH⟩ := hblk hne
        refine ⟨(List.range (ys.length * es')).map fun p => f (p / es') (p % es'), by simp, fun w2 => by simp [Builtin.lenOf], fun w2 hw2 => ?_, ⟨_, _, _, rfl⟩, hes, hcell, fun i r j c hi hj => ?_⟩
        · simp only [Builtin.firstCells]
          exact run_loadCells (P := P) w2 ⟨b, o', none⟩ _ _ fun p hp => by
            obtain ⟨d1, d2, d3⟩ := divmod h0 hp
            rw [addr_add]
            refine load_cell (w := w2) (by rw [hw2]; exact hs.hH _ _ hH) ?_
            have := hcs _ _ d1 d2
            rw [Nat.add_assoc, d3] at this
            exact this
        · have hil : i < ys.length := (List.getElem?_eq_some_iff.1 hi).1
          have hjl : j < es' := by have := (List.getElem?_eq_some_iff.1 hj).1; have := hes r (List.mem_of_getElem? hi); omega
          have hlt : i * es' + j < ys.length * es' := by
            have : (i + 1) * es' ≤ ys.length * es' := Nat.mul_le_mul_right _ hil
            rw [Nat.add_mul] at this; omega
          have e1 : (i * es' + j) / es' = i := by
            rw [Nat.mul_comm, Nat.mul_add_div h0, Nat.div_eq_of_lt hjl]; rfl
          have e2 : (i * es' + j) % es' = j := by rw [Nat.mul_comm, Nat.mul_add_mod, Nat.mod_eq_of_lt hjl]
          exact ⟨f i j, by simp [hlt, e1, e2], (hrep i r j c hi hj).mono (.refl _) (by intro i x hx; simp at hx)⟩
    · cases hy
  | @ms _ i es' off len b capT cap hβ hcap hlen hbig =>
    simp only [rowsOf] at hy
    split at hy
    · rename_i es'' rows hi
      split at hy
      · rename_i hcond
        obtain ⟨rfl, rfl, hol⟩ := hcond
        cases hy
        obtain ⟨_, cells, elem, g2, g3, g4, g5, g6, g7⟩ := hs.ent i _ _ hi hβ
        have hlen' : ((rows.drop off).take len).length = len := by simp; omega
        obtain ⟨vs, hvl, hvs⟩ := exists_list (p := fun p v => cells[off * es'' + p]? = some v ∧ ∀ c, ((rows.drop off).take len)[p / es'']?.bind (·[p % es'']?) = some c → Rep H β c v) (len * es'') (fun p hp => by
          obtain ⟨d1, d2, d3⟩ := divmod h0 hp
          have hrl : off + p / es'' < rows.length := by omega
          have hr5 := g5 rows[off + p / es''] (List.getElem_mem hrl)
          obtain ⟨v, hv, hrep⟩ := g7 (off + p / es'') _ (p % es'') (rows[off + p / es''][p % es'']'(by omega)) (List.getElem?_eq_getElem hrl) (List.getElem?_eq_getElem _)
          refine ⟨v, ?_, fun c hc => ?_⟩
          · rw [Nat.add_mul, Nat.add_assoc, d3] at hv; exact hv
          · rw [List.getElem?_take, if_pos d1, List.getElem?_drop, List.getElem?_eq_getElem hrl] at hc
            simp only [Option.bind_some] at hc
            rw [List.getElem?_eq_getElem (by omega)] at hc
            cases hc; exact hrep)
        refine ⟨vs, by rw [hlen', hvl], fun w2 => by simp [Builtin.lenOf, hlen'], fun w2 hw2 => ?_, ⟨_, _, _, rfl⟩, fun r hr => g5 r (List.mem_of_mem_drop (List.mem_of_mem_take hr)),
          fun r hr => g6 r (List.mem_of_mem_drop (List.mem_of_mem_take hr)), fun q r j c hq hj => ?_⟩
        · have := run_firstCells_some (P := P) w2 es'' len ⟨b, off * es'', none⟩ len cap vs hvl (fun j v hj => by
            rw [addr_add]; exact load_cell (w := w2) (by rw [hw2]; exact g2) (hvs j v hj).1)
          rw [hlen']; exact this
        · have hql : q < len := by have := (List.getElem?_eq_some_iff.1 hq).1; omega
          have hjl : j < es'' := by
            have h1 := (List.getElem?_eq_some_iff.1 hj).1
            have h2 := g5 r (List.mem_of_mem_drop (List.mem_of_mem_take (List.mem_of_getElem? hq)))
            omega
          have hlt : q * es'' + j < vs.length := by
            rw [hvl]
            have : (q + 1) * es'' ≤ len * es'' := Nat.mul_le_mul_right _ hql
            rw [Nat.add_mul] at this; omega
          have e1 : (q * es'' + j) / es'' = q := by
            rw [Nat.mul_comm, Nat.mul_add_div h0, Nat.div_eq_of_lt hjl]; rfl
          have e2 : (q * es'' + j) % es'' = j := by rw [Nat.mul_comm, Nat.mul_add_mod, Nat.mod_eq_of_lt hjl]
          exact ⟨vs[q * es'' + j], List.getElem?_eq_getElem hlt, (hvs _ _ (List.getElem?_eq_getElem hlt)).2 c (by rw [e1, e2, hq]; exact hj)⟩
      · cases hy
    · cases hy
  | @ms0 _ i es' off a' x hβ =>
    simp only [rowsOf] at hy
    split at hy
    · split at hy
      · simp at hy; subst hy
        refine ⟨[], by simp, fun w2 => by simp [Builtin.lenOf], fun w2 _ => ?_, ⟨_, _, _, rfl⟩, by simp, by simp, by simp⟩
        cases a' <;> simp [Builtin.firstCells, loadCells, loadCellsFrom]
      · cases hy
    · cases hy
  | _ => simp [rowsOf] at hy

/-- append, by what it needs to know. -/
theorem run_app {t u e : TypeId} {ty : TypeId} {i : TypeInfo} {z : Value} {d : TypeDesc} {es : Nat} (he : elemB P t = some e) (hu : P.underlying u = some d) (hd : d = .string ∨ ∃ e', d = .slice e')
    (hi : P.info? e = some i) (hz : i.zero = some z) (hsz : i.size = es) {xv : Value} {n : Nat} {news : List Value}
    (hlen : ∀ w2 : World, (Builtin.lenOf xv).run P w2 = .ok n w2) (hnews : ∀ w2 : World, w2.heap = w.heap → (Builtin.firstCells es n xv).run P w2 = .ok news.toArray w2)
    (base : Option Addr) (sLen sCap : Nat) :
    (sLen + n ≤ sCap → ∀ aB, base = some aB → (Builtin.append_ #[t, u] ty #[.slice base sLen sCap, xv]).run P w =
        ((storeCells (aB.add (sLen * es)) news).run P w).andThen fun _ w' => .ok (.slice base (sLen + n) sCap) w') ∧
    (sLen + n ≤ sCap → base = none → (Builtin.append_ #[t, u] ty #[.slice base sLen sCap, xv]).run P w = .ok (.slice none (sLen + n) sCap) w) ∧
    (∀ olds : List Value, (∀ w2 : World, w2.heap = w.heap → (Builtin.firstCells es sLen (.slice base sLen sCap)).run P w2 = .ok olds.toArray w2) → sCap < sLen + n → ((sLen + n : Nat) : Int) ≤ 9223372036854775807 →
      Builtin.nextslicecap (sLen + n) sCap * i.bytes ≤ 281474976710656 →
      (Builtin.append_ #[t, u] ty #[.slice base sLen sCap, xv]).run P w =
        .ok (.slice (some ⟨w.heap.size, 0, none⟩) (sLen + n) (grownCap w (sLen + n) sCap e))
          (w.drew.alloc (.cells (olds.toArray ++ news.toArray ++ Builtin.zeroCells z.cells (grownCap w (sLen + n) sCap e - (sLen + n))) e))) := by
  have hsize : ∀ w2 : World, (sizeOf e).run P w2 = .ok es w2 := fun w2 => by simp [sizeOf, typeInfo, hi, hsz]
  have hti : ∀ w2 : World, (typeInfo e).run P w2 = .ok i w2 := fun w2 => by simp [typeInfo, hi]
  have hzv : ∀ w2 : World, (zeroValue e).run P w2 = .ok z w2 := fun w2 => by simp [zeroValue, typeInfo, hi, hz]
  refine ⟨fun hroom aB hb => ?_, fun hroom hb => ?_, fun olds holds hgrow h63 hfit => ?_⟩
  · subst hb
    have hf := hnews w rfl
    rcases hd with rfl | ⟨e', rfl⟩
    · simp [Builtin.append_, run_underlying (under_elem he), run_underlying hu, hsize, hlen, hroom, hf]
    · simp [Builtin.append_, run_underlying (under_elem he), run_underlying hu, hsize, hlen, hroom, hf]
  · subst hb
    have hf := hnews w rfl
    rcases hd with rfl | ⟨e', rfl⟩
    · simp [Builtin.append_, run_underlying (under_elem he), run_underlying hu, hsize, hlen, hroom, hf]
    · simp [Builtin.append_, run_underlying (under_elem he), run_underlying hu, hsize, hlen, hroom, hf]
  · have hn : ¬ (sLen + n ≤ sCap) := by omega
    have h63' : ¬ (9223372036854775807 < ((sLen : Int) + (n : Int))) := by omega
    have h48' : ¬ (281474976710656 < Builtin.nextslicecap (sLen + n) sCap * i.bytes) := by omega
    have hf := hnews w.drew rfl
    have hfo := holds w.drew rfl
    rcases hd with rfl | ⟨e', rfl⟩
    · simp [Builtin.append_, run_underlying (under_elem he), run_underlying hu, hsize, hti, hzv, hlen, hn, h63', h48', Question.forced, hf, hfo, newRow, grownCap, Array.append_assoc]
      congr 2; apply Array.ext'; simp
    · simp [Builtin.append_, run_underlying (under_elem he), run_underlying hu, hsize, hti, hzv, hlen, hn, h63', h48', Question.forced, hf, hfo, newRow, grownCap, Array.append_assoc]
      congr 2; apply Array.ext'; simp


theorem grown_ge (w : World) (need old : Nat) (e : TypeId) : need ≤ grownCap w need old e := grownCap_ge w need old e

/-- What append does to the owned blocks. -/
theorem app_sound {es : Nat} {x : AV} {xv yv : Value} {ys : List (List AV)} {t u e ty : TypeId} {i : TypeInfo} {z : Value} {d : TypeDesc} {r : Ev} {news : List Value} (hs : Sat H F β st.mem w) (h0 : 0 < es) (he : elemB P t = some e)
    (hu : P.underlying u = some d) (hd : d = .string ∨ ∃ e', d = .slice e') (hi : P.info? e = some i) (hz : i.zero = some z) (hsz : i.size = es) (hzc : z.cells.size = es) (hbytes : i.bytes ≤ 128)
    (hlen : ∀ w2 : World, (Builtin.lenOf yv).run P w2 = .ok ys.length w2) (hnews : ∀ w2 : World, w2.heap = w.heap → (Builtin.firstCells es ys.length yv).run P w2 = .ok news.toArray w2)
    (hnl : news.length = ys.length * es) (hys1 : ∀ r ∈ ys, r.length = es) (hys2 : ∀ r ∈ ys, ∀ c ∈ r, c.isCell = true)
    (hys3 : ∀ (i : Nat) (r : List AV) (j : Nat) (c : AV), ys[i]? = some r → r[j]? = some c → ∃ x, news[i * es + j]? = some x ∧ x.oneCell' = true ∧ Rep H β c x)
    (hx : Rep H β x xv) (hev : evApp st.mem es x ys = some r) (hside : r.1) :
    ∃ v w' β', (Builtin.append_ #[t, u] ty #[xv, yv]).run P w = .ok v w' ∧ BExt β β' ∧ Rep H β' r.2.1 v ∧ Sat H F β' r.2.2 w' := by
  have hnone : ∀ v ∈ news, v.oneCell' = true := by
    intro v hv
    obtain ⟨p, hp, rfl⟩ := List.getElem_of_mem hv
    rw [hnl] at hp
    obtain ⟨d1, d2, d3⟩ := divmod h0 hp
    have hr := hys1 ys[p / es] (List.getElem_mem d1)
    obtain ⟨x, g1, g2, _⟩ := hys3 (p / es) ys[p / es] (p % es) (ys[p / es][p % es]'(by omega)) (List.getElem?_eq_getElem d1) (List.getElem?_eq_getElem _)
    rw [d3] at g1
    rw [List.getElem?_eq_getElem (by omega)] at g1
    cases g1; exact g2
  have fit : ∀ m c, c < m → m ≤ LIM → ((m : Nat) : Int) ≤ 9223372036854775807 ∧ Builtin.nextslicecap m c * i.bytes ≤ 281474976710656 := by
    intro m c hc hm
    unfold LIM at hm
    refine ⟨by omega, growslice_fits hc ?_⟩
    have : m * i.bytes ≤ 1099511627776 * 128 := Nat.mul_le_mul hm hbytes
    omega
  -- a fresh block that holds 'rows' ahead of spare cells
  have fresh : ∀ (mem0 : List Ent) (w0 : World) (rows : List (List AV)) (olds : List Value) (m cap : Nat), Sat H F β mem0 w0 → rows.length + ys.length = m → m ≤ cap → olds.length = rows.length * es →
      (∀ r ∈ rows, r.length = es) → (∀ r ∈ rows, ∀ c ∈ r, c.isCell = true) →
      (∀ (i : Nat) (r : List AV) (j : Nat) (c : AV), rows[i]? = some r → r[j]? = some c → ∃ x, olds[i * es + j]? = some x ∧ Rep H β c x) →
      Sat H F (β ++ [some (w0.heap.size, es, cap)]) (mem0 ++ [.arr es (rows ++ ys)]) (w0.alloc (.cells (olds.toArray ++ news.toArray ++ Builtin.zeroCells z.cells (cap - m)) e)) := by
    intro mem0 w0 rows olds m cap hs0 hm hcap hol q1 q2 q3
    refine hs0.alloc_own ?_ (by simp; omega) ?_ ?_ ?_
    · simp only [Array.size_append, List.size_toArray, size_zeroCells, hol, hnl, hzc]
      rw [← Nat.add_mul, ← Nat.add_mul, hm, Nat.add_sub_cancel' hcap]
    · intro r hr
      rcases List.mem_append.1 hr with hr | hr
      · exact q1 r hr
      · exact hys1 r hr
    · intro r hr
      rcases List.mem_append.1 hr with hr | hr
      · exact q2 r hr
      · exact hys2 r hr
    · intro q r j c hq hj
      rw [List.getElem?_append] at hq
      split at hq
      · rename_i hlt
        obtain ⟨x, hx1, hx2⟩ := q3 q r j c hq hj
        have hl := (List.getElem?_eq_some_iff.1 hx1).1
        refine ⟨x, ?_, hx2⟩
        rw [Array.append_assoc, Array.getElem?_append_left (by simpa using hl)]
        simpa using hx1
      · rename_i hge
        obtain ⟨x, hx1, _, hx2⟩ := hys3 (q - rows.length) r j c hq hj
        have hl := (List.getElem?_eq_some_iff.1 hx1).1
        refine ⟨x, ?_, hx2⟩
        have e1 : q * es + j - olds.length = (q - rows.length) * es + j := by
          rw [hol, Nat.sub_mul]
          have : rows.length * es ≤ q * es := Nat.mul_le_mul_right _ (by omega)
          omega
        have e2 : olds.length ≤ q * es + j := by
          rw [hol]
          have : rows.length * es ≤ q * es := Nat.mul_le_mul_right _ (by omega)
          omega
        rw [Array.append_assoc, Array.getElem?_append_right (by simpa using e2), List.size_toArray, e1, Array.getElem?_append_left (by simpa using hl)]
        simpa using hx1
  have noold : ∀ w2 : World, ∀ b : Option Addr, (Builtin.firstCells es 0 (.slice b 0 0)).run P w2 = .ok (([] : List Value).toArray) w2 := by
    intro w2 b
    cases b <;> simp [Builtin.firstCells, loadCells, loadCellsFrom]
  have repms : ∀ (mem0 : List Ent) (w0 : World) (m cap : Nat), Sat H F β mem0 w0 → m ≤ cap → m ≤ LIM → Rep H (β ++ [some (w0.heap.size, es, cap)]) (.ms mem0.length es 0 m) (.slice (some ⟨w0.heap.size, 0, none⟩) m cap) := by
    intro mem0 w0 m cap hs0 hm hl
    have : Rep H (β ++ [some (w0.heap.size, es, cap)]) (.ms mem0.length es 0 m) (.slice (some ⟨w0.heap.size, 0 * es, none⟩) m cap) :=
      .ms (b := w0.heap.size) (capT := cap) (by rw [← hs0.hl]; simp) (by omega) hm (by unfold LIM at hl; unfold BIG; omega)
    simpa using this
  -- a base without length and room
  have zero : ∀ (mem0 : List Ent) (b : Option Addr), Sat H F β mem0 w → ys.length ≤ LIM →
      ∃ v w' β', (Builtin.append_ #[t, u] ty #[.slice b 0 0, yv]).run P w = .ok v w' ∧ BExt β β' ∧ Rep H β' (.ms mem0.length es 0 ys.length) v ∧ Sat H F β' (mem0 ++ [.arr es ys]) w' := by
    intro mem0 b hs0 hl
    obtain ⟨r1, r2, r3⟩ := run_app (P := P) (w := w) (ty := ty) he hu hd hi hz hsz hlen hnews b 0 0
    by_cases hn0 : ys.length = 0
    · have hy0 : ys = [] := List.length_eq_zero_iff.1 hn0
      have hn : news = [] := List.length_eq_zero_iff.1 (by rw [hnl, hn0]; simp)
      subst hy0; subst hn
      refine ⟨.slice b 0 0, w, β ++ [none], ?_, .append _ _, .ms0 (x := none) (by rw [← hs0.hl]; simp), hs0.own_none es⟩
      cases b with
      | none => simpa using r2 (by simp) rfl
      | some aB => have := r1 (by simp) aB rfl; simpa [storeCells] using this
    · obtain ⟨f1, f2⟩ := fit ys.length 0 (by omega) hl
      have rr := r3 [] (fun w2 _ => noold w2 b) (by omega) (by omega) (by rw [Nat.zero_add]; exact f2)
      simp only [Nat.zero_add] at rr
      have hc := grown_ge w ys.length 0 e
      have hsd : Sat H F β mem0 w.drew := hs0.of_heap rfl ⟨rfl, rfl, rfl⟩
      refine ⟨_, _, _, rr, .append _ _, repms mem0 w.drew ys.length _ hsd hc hl, ?_⟩
      have := fresh mem0 w.drew [] [] ys.length (grownCap w ys.length 0 e) hsd (by simp) hc (by simp) (by simp) (by simp) (by simp)
      simpa using this
  unfold evApp at hev
  split at hev
  · cases hev
    cases hx with
    | e0 => exact zero st.mem _ hs hside
  · rename_i m es' off len
    split at hev
    · rename_i es'' rows hm
      cases hev
      obtain ⟨rfl, rfl, rfl, hlr, hlim⟩ := hside
      cases hx with
      | @ms _ _ _ _ _ b capT cap hβ hcap hlc hbig =>
        obtain ⟨_, cells, elem, g2, g3, g4, g5, g6, g7⟩ := hs.ent m _ _ hm hβ
        have htl : (rows.take len).length = len := by simp; omega
        have q1 : ∀ r ∈ rows.take len, r.length = es'' := fun r hr => g5 r (List.mem_of_mem_take hr)
        have q2 : ∀ r ∈ rows.take len, ∀ c ∈ r, c.isCell = true := fun r hr => g6 r (List.mem_of_mem_take hr)
        obtain ⟨r1, r2, r3⟩ := run_app (P := P) (w := w) (ty := ty) he hu hd hi hz hsz hlen hnews (some ⟨b, 0 * es'', none⟩) len cap
        by_cases hroom : len + ys.length ≤ cap
        · have rr := r1 hroom _ rfl
          have e0 : (⟨b, 0 * es'', none⟩ : Addr).add (len * es'') = ⟨b, len * es'', none⟩ := by rw [addr_add]; simp
          rw [e0] at rr
          have hrm : len * es'' + news.length ≤ cells.size := by
            rw [g3, hnl, ← Nat.add_mul]
            exact Nat.mul_le_mul_right _ (by omega)
          have hst := run_storeCells_at (P := P) b elem news (len * es'') 0 cells w g2 (by simpa using hrm) hnone
          rw [hst] at rr
          simp only [Nat.add_zero, Result.andThen_ok] at rr
          have hsr := hs.rewrite (rows' := rows.take len ++ ys) hm hβ (cells := splice cells (len * es'') news) (elem := elem) (by rw [splice_size hrm]; exact g3) (by simp; omega)
            (fun r hr => by rcases List.mem_append.1 hr with hr | hr; exact q1 r hr; exact hys1 r hr) (fun r hr => by rcases List.mem_append.1 hr with hr | hr; exact q2 r hr; exact hys2 r hr)
            (fun q r j c hq hj => by
              rw [splice_get hrm]
              rw [List.getElem?_append, htl] at hq
              split at hq
              · rename_i hql
                rw [List.getElem?_take, if_pos hql] at hq
                obtain ⟨v, hv, hrep⟩ := g7 q r j c hq hj
                have hjl : j < es'' := by have := (List.getElem?_eq_some_iff.1 hj).1; have := g5 r (List.mem_of_getElem? hq); omega
                have : (q + 1) * es'' ≤ len * es'' := Nat.mul_le_mul_right _ hql
                rw [Nat.add_mul] at this
                exact ⟨v, by rw [if_pos (by omega)]; exact hv, hrep⟩
              · rename_i hql
                obtain ⟨v, hv, _, hrep⟩ := hys3 (q - len) r j c hq hj
                have hl := (List.getElem?_eq_some_iff.1 hv).1
                have h1 : len * es'' ≤ q * es'' := Nat.mul_le_mul_right _ (by omega)
                have e1 : q * es'' + j - len * es'' = (q - len) * es'' + j := by rw [Nat.sub_mul]; omega
                exact ⟨v, by rw [if_neg (by omega), if_pos (by omega), e1]; exact hv, hrep⟩)
          have hmi : (st.mem.set m (Ent.arr es'' (rows.take len ++ ys)))[m]? = some (.arr es'' (rows.take len ++ ys)) := by
            rw [List.getElem?_set]; simp [(List.getElem?_eq_some_iff.1 hm).1]
          have hmv := hsr.move hmi hβ
          rw [List.set_set] at hmv
          refine ⟨_, _, _, rr, .append _ _, ?_, hmv⟩
          have : Rep H (β ++ [some (b, es'', capT)]) (.ms st.mem.length es'' 0 (len + ys.length)) (.slice (some ⟨b, 0 * es'', none⟩) (len + ys.length) cap) :=
            .ms (b := b) (capT := capT) (by rw [← hs.hl]; simp) (by omega) hroom (by unfold LIM at hlim; unfold BIG; omega)
          simpa using this
        · obtain ⟨olds, hol1, hol2, hol3, _, _, _, hol4⟩ := src_rep (P := P) (st := st) (w := w) hs h0 (Rep.ms (i := m) (off := 0) hβ hcap hlc hbig) (ys := rows.take len) (by simp only [rowsOf, hm]; simp; exact hlr)
          rw [htl] at hol3 hol1
          obtain ⟨f1, f2⟩ := fit (len + ys.length) cap (by omega) hlim
          have rr := r3 olds (fun w2 hw2 => hol3 w2 hw2) (by omega) f1 f2
          have hc := grown_ge w (len + ys.length) cap e
          have hsd : Sat H F β (st.mem.set m .dead) w.drew := (hs.kill m).of_heap rfl ⟨rfl, rfl, rfl⟩
          refine ⟨_, _, β ++ [some (w.drew.heap.size, es'', grownCap w (len + ys.length) cap e)], rr, .append _ _, ?_, ?_⟩
          · have := repms (st.mem.set m .dead) w.drew (len + ys.length) _ hsd hc hlim
            simpa using this
          · exact fresh (st.mem.set m .dead) w.drew (rows.take len) olds (len + ys.length) _ hsd (by rw [htl]) hc (by rw [htl]; exact hol1) q1 q2 hol4
      | @ms0 _ _ _ _ ab _ hβ =>
        have := zero (st.mem.set m .dead) ab (hs.kill m) (by omega)
        simpa using this
    · cases hev
  · cases hev

end
end Go.Fw
