/- The compact operations stand for the model's, last part, and all of them together. -/
import Derived.Test.YteldjoikaepijaaFw9
namespace Go.Fw
open Go
section
variable {P : Program} {H : Hp} {F : Fr} {β : Bt} {N : Nat} {st : St} {a : Act} {w : World} {o : Oper}

theorem args2 {c : Call} {x y : Operand} (h : c.args.toList = [x, y]) : c.args = #[x, y] := by rw [← Array.toArray_toList (xs := c.args), h]
theorem types2 {c : Call} {x y : TypeId} (h : c.argTypes.toList = [x, y]) : c.argTypes = #[x, y] := by rw [← Array.toArray_toList (xs := c.argTypes), h]

theorem snd_app {x y : Ar} {c : Call} {x' y' : Operand} {t u e : TypeId} {es : Nat} {ys : List (List AV)} {i : TypeInfo} {z : Value} {r : Ev} (h : Rel H F β N st a w) (hx : chkAr x x' = true) (hy : chkAr y y' = true)
    (ho : o.op = .call c) (hb : c.callee = .builtin .append) (ha : c.args.toList = [x', y']) (hat : c.argTypes.toList = [t, u]) (he : elemB P t = some e) (hu : (elemB P u).isSome = true) (hsz : szB P e = some es)
    (h0 : 0 < es) (hi : P.info? e = some i) (hbytes : i.bytes ≤ 128) (hz : i.zero = some z) (hzc : z.cells.size = es)
    (hrow : rowsOf st.mem es (ar st.env y) = some ys) (hev : evApp st.mem es (ar st.env x) ys = some r) (hs : r.1) : Good P H F β o a w r.2.1 r.2.2 := by
  obtain ⟨e', he'⟩ := Option.isSome_iff_exists.1 hu
  obtain ⟨news, n1, n2, n3, n4, n5, n6, n7⟩ := src_rep (P := P) h.sat h0 (h.ar hy) hrow
  have hsz' : i.size = es := by unfold szB at hsz; simpa [hi] using hsz
  have hone : ∀ (i : Nat) (r : List AV) (j : Nat) (c : AV), ys[i]? = some r → r[j]? = some c → ∃ x, news[i * es + j]? = some x ∧ x.oneCell' = true ∧ Rep H β c x := by
    intro i r j c hi hj
    obtain ⟨x, g1, g2⟩ := n7 i r j c hi hj
    exact ⟨x, g1, (g2.one (n6 r (List.mem_of_getElem? hi) c (List.mem_of_getElem? hj))).1, g2⟩
  obtain ⟨v, w', β', q1, q2, q3, q4⟩ := app_sound (ty := o.type) h.sat h0 he (under_elem he') (.inr ⟨e', rfl⟩) hi hz hsz' hzc hbytes n2 n3 n1 n5 n6 hone (h.ar hx) hev hs
  refine ⟨v, w', H, β', .inl ?_, .refl _ _, q2, q3, q4⟩
  simp [execOp, ho, resolve, hb, args2 ha, types2 hat, invoke, builtin, q1]

theorem snd_apps {x y : Ar} {c : Call} {x' y' : Operand} {t u e : TypeId} {s : List UInt8} {i : TypeInfo} {z : Value} {r : Ev} (h : Rel H F β N st a w) (hx : chkAr x x' = true) (hy : chkAr y y' = true)
    (ho : o.op = .call c) (hb : c.callee = .builtin .append) (ha : c.args.toList = [x', y']) (hat : c.argTypes.toList = [t, u]) (he : elemB P t = some e) (hu : isStr P u = true) (hsz : szB P e = some 1)
    (hi : P.info? e = some i) (hbytes : i.bytes ≤ 128) (hz : i.zero = some z) (hzc : z.cells.size = 1)
    (hstr : ar st.env y = .str s) (hev : evApp st.mem 1 (ar st.env x) (s.map encB) = some r) (hs : r.1) : Good P H F β o a w r.2.1 r.2.2 := by
  have ry := h.ar hy; rw [hstr] at ry; obtain ⟨ey, _⟩ := rep_str ry
  have hsz' : i.size = 1 := by unfold szB at hsz; simpa [hi] using hsz
  have hbs : (ByteArray.mk s.toArray).size = s.length := by simp [ByteArray.size]
  have hu8 : IntKind.u8.min = 0 ∧ IntKind.u8.max = 255 := by decide
  have hlen : ∀ w2 : World, (Builtin.lenOf (a.eval y')).run P w2 = .ok (s.map encB).length w2 := by intro w2; simp [Builtin.lenOf, ey, hbs]
  have hnews : ∀ w2 : World, w2.heap = w.heap → (Builtin.firstCells 1 (s.map encB).length (a.eval y')).run P w2 = .ok ((s.map fun b => Value.int .u8 b.toNat) : List Value).toArray w2 := by
    intro w2 _
    have hex : (ByteArray.mk s.toArray).extract 0 s.length = ⟨s.toArray⟩ := by
      apply ByteArray.ext; simp
    simp only [Builtin.firstCells, ey, List.length_map, hex, Sem.run_pure]
    simp
  have hone : ∀ (i : Nat) (r : List AV) (j : Nat) (c : AV), (s.map encB)[i]? = some r → r[j]? = some c → ∃ x, ((s.map fun b => Value.int .u8 b.toNat) : List Value)[i * 1 + j]? = some x ∧ x.oneCell' = true ∧ Rep H β c x := by
    intro i r j c hi hj
    rw [List.getElem?_map, Option.map_eq_some_iff] at hi
    obtain ⟨b, hb, rfl⟩ := hi
    cases j with
    | zero =>
      simp [encB] at hj; subst hj
      have := b.toNat_lt
      exact ⟨.int .u8 b.toNat, by simp [hb], rfl, .int (by rw [hu8.1, hu8.2]; omega)⟩
    | succ j => simp [encB] at hj
  obtain ⟨v, w', β', q1, q2, q3, q4⟩ := app_sound (ty := o.type) h.sat (by omega) he (under_str hu) (.inl rfl) hi hz hsz' hzc hbytes hlen hnews (by simp)
    (by intro r hr; obtain ⟨b, _, rfl⟩ := List.mem_map.1 hr; rfl) (by intro r hr c hc; obtain ⟨b, _, rfl⟩ := List.mem_map.1 hr; simp [encB] at hc; subst hc; rfl) hone (h.ar hx) hev hs
  refine ⟨v, w', H, β', .inl ?_, .refl _ _, q2, q3, q4⟩
  simp [execOp, ho, resolve, hb, args2 ha, types2 hat, invoke, builtin, q1]

theorem bytes_fold : ∀ (ns : List Int) (acc : List UInt8), ns.foldl (fun r n => r.push (UInt8.ofNat n.toNat)) (ByteArray.mk acc.toArray) = ⟨(acc ++ ns.map fun n => UInt8.ofNat n.toNat).toArray⟩
  | [], acc => by simp
  | n :: ns, acc => by
    have : (ByteArray.mk acc.toArray).push (UInt8.ofNat n.toNat) = ⟨(acc ++ [UInt8.ofNat n.toNat]).toArray⟩ := by
      apply ByteArray.ext; simp
    rw [List.foldl_cons, this, bytes_fold ns]
    simp

theorem snd_b2s {x : Ar} {y : Operand} {s d e : TypeId} {rows : List (List AV)} (h : Rel H F β N st a w) (hc : chkAr x y = true) (ho : o.op = .convert s d y) (hd : isStr P d = true) (hs : elemB P s = some e)
    (he : isIntK P e .u8 = true) (hrow : rowsOf st.mem 1 (ar st.env x) = some rows) (hB : rows.all isB = true) (hbig : rows.length ≤ BIG) : Good P H F β o a w (.str (rows.map byteOf)) st.mem := by
  obtain ⟨news, n1, n2, n3, ⟨b, l, cp, n4⟩, n5, n6, n7⟩ := src_rep (P := P) h.sat (by omega) (h.ar hc) hrow
  have hconv : (execOp a.eval o).run P w = ((Conv.bytesToString (a.eval y)).run P w).andThen fun v w' => .ok (.value v) w' := by
    rw [n4]
    simp [execOp, ho, n4, convert, run_underlying (under_elem hs), run_underlying (under_str hd), run_underlying (under_int he)]
  have hl : l = rows.length := by
    have := n2 w; rw [n4] at this; simp [Builtin.lenOf] at this; exact this
  have hnews : news = (rows.map fun r => match r with | [.int .u8 n] => n | _ => 0).map (Value.int .u8) := by
    apply List.ext_getElem?
    intro k
    by_cases hk : k < rows.length
    · have hb := List.all_eq_true.1 hB rows[k] (List.getElem_mem hk)
      have hrk : rows[k]? = some rows[k] := List.getElem?_eq_getElem hk
      generalize rows[k] = row at hb hrk
      unfold isB at hb
      split at hb
      · rename_i n
        obtain ⟨v, g1, g2⟩ := n7 k _ 0 _ hrk rfl
        have hv := (rep_int g2).1
        subst hv
        simp only [Nat.mul_one, Nat.add_zero] at g1
        rw [g1]
        simp [hrk]
      · cases hb
    · rw [List.getElem?_eq_none (by omega), List.getElem?_eq_none (by simp; omega)]
  have hbytes : ((rows.map fun r => match r with | [.int .u8 n] => n | _ => 0).map fun n : Int => UInt8.ofNat n.toNat) = rows.map byteOf := by
    rw [List.map_map]
    apply List.map_congr_left
    intro r hr
    have hb := List.all_eq_true.1 hB r hr
    unfold isB at hb
    split at hb
    · simp [byteOf]
    · cases hb
  refine .same (x := .string ⟨(rows.map byteOf).toArray⟩) h ?_ (.str (by simpa using hbig))
  rw [hconv, n4]
  cases b with
  | none =>
    have h1 := n3 w rfl
    rw [n4] at h1
    simp [Builtin.firstCells] at h1
    have : rows = [] := by
      have : news.length = 0 := by rw [h1]; rfl
      rw [n1] at this
      exact List.length_eq_zero_iff.1 (by omega)
    subst this
    simp [Conv.bytesToString]; rfl
  | some b =>
    have h1 := n3 w rfl
    rw [n4] at h1
    simp only [Builtin.firstCells, Nat.mul_one] at h1
    rw [hnews] at h1
    have := run_bytesToString (P := P) w b rows.length cp _ h1
    rw [hl, this]
    have hf := bytes_fold (rows.map fun r => match r with | [.int .u8 n] => n | _ => 0) []
    rw [hbytes] at hf
    simp only [Result.andThen_ok]
    congr 3

theorem snd_ext {x : Ar} {y : Operand} {i : Nat} {vs : List AV} {v : AV} (h : Rel H F β N st a w) (hc : chkAr x y = true) (ho : o.op = .extract y i) (hx : ar st.env x = .tup vs) (hv : vs[i]? = some v) :
    Good P H F β o a w v st.mem := by
  have r := h.ar hc; rw [hx] at r
  generalize he : a.eval y = av at r
  cases r with
  | @tup _ _ xs hl hrep =>
    have hlt : i < xs.size := by have := (List.getElem?_eq_some_iff.1 hv).1; omega
    refine .same (x := xs[i]) h ?_ (hrep i v _ hv (Array.getElem?_eq_getElem hlt))
    simp [execOp, ho, he, Instr.extract, hlt]

theorem chkArs_get : ∀ (xs : List Ar) (ys : List Operand), chkArs xs ys = true → ys.length = xs.length ∧ ∀ (k : Nat) x y, xs[k]? = some x → ys[k]? = some y → chkAr x y = true
  | [], [], _ => ⟨rfl, by simp⟩
  | [], _ :: _, h => by simp [chkArs] at h
  | _ :: _, [], h => by simp [chkArs] at h
  | x :: r, y :: r', h => by
    simp only [chkArs, Bool.and_eq_true] at h
    obtain ⟨h4, h5⟩ := chkArs_get r r' h.2
    refine ⟨by simp [h4], fun k p q hp hq => ?_⟩
    cases k with
    | zero => simp at hp hq; subst hp; subst hq; exact h.1
    | succ k => exact h5 k p q (by simpa using hp) (by simpa using hq)

theorem rel_ars {xs : List Ar} {ys : List Operand} (h : Rel H F β N st a w) (hc : chkArs xs ys = true) :
    ys.length = xs.length ∧ ∀ (k : Nat) v y, (xs.map (ar st.env))[k]? = some v → (ys.map a.eval)[k]? = some y → Rep H β v y := by
  obtain ⟨h1, h2⟩ := chkArs_get _ _ hc
  refine ⟨h1, fun k v y hv hy => ?_⟩
  rw [List.getElem?_map, Option.map_eq_some_iff] at hv hy
  obtain ⟨x, hx, rfl⟩ := hv
  obtain ⟨z, hz, rfl⟩ := hy
  exact h.ar (h2 k x z hx hz)

theorem snd_mkfn {f : FuncId} {xs : List Ar} {fst cs : Array Operand} (h : Rel H F β N st a w) (hc : chkArs xs cs.toList = true) (hf : fst.size = 0) (ho : o.op = .makeFunc (.func f) fst cs) :
    Good P H F β o a w (.fn f (xs.map (ar st.env))) st.mem := by
  obtain ⟨h1, h2⟩ := rel_ars h hc
  obtain rfl : fst = #[] := Array.eq_empty_of_size_eq_zero hf
  refine .same (x := .func (.func f) #[] (cs.map a.eval)) h ?_ (.fn ?_ fun k v y hv hy => h2 k v y hv (by simpa using hy))
  · simp [execOp, ho, Instr.makeFunc]
  · simp at h1 ⊢; exact h1

theorem snd_mks {x : Ar} {l c : Operand} {t e : TypeId} {es : Nat} {zs : List AV} {k : IntKind} {n : Int} {i : TypeInfo} (h : Rel H F β N st a w) (hl : chkAr x l = true) (hc : chkAr x c = true) (ho : o.op = .makeSlice t l c)
    (he : elemB P t = some e) (hsz : szB P e = some es) (h0 : 0 < es) (hz : zeroOk P e zs = true) (hzl : zs.length = es) (hi : P.info? e = some i) (hbytes : i.bytes ≤ 128) (hx : ar st.env x = .int k n) (hn : 0 ≤ n ∧ n ≤ LIM) :
    Good P H F β o a w (.ms st.mem.length es 0 n.toNat) (st.mem ++ [.arr es (List.replicate n.toNat zs)]) := by
  obtain ⟨i', z, hi', hzz, hco⟩ := zero_of hz
  rw [hi] at hi'; cases hi'
  obtain ⟨z1, z2, z3⟩ := constOkL_rep H β zs z.cells.toList hco
  have r1 := h.ar hl; rw [hx] at r1; have e1 := (rep_int r1).1
  have r2 := h.ar hc; rw [hx] at r2; have e2 := (rep_int r2).1
  have hsz' : i.size = es := by unfold szB at hsz; simpa [hi] using hsz
  obtain ⟨h1, h2⟩ := hn
  have hlim : n ≤ 1099511627776 := h2
  have hw : IntKind.i64.wrap n = n := IntWalk.i64_in n (by omega)
  have hb : (i.bytes : Int) * n ≤ 281474976710656 := by
    have : (i.bytes : Int) * n ≤ 128 * n := Int.mul_le_mul_of_nonneg_right (by omega) h1
    omega
  have hzs : z.cells.size = es := by simpa [hzl] using z1.symm
  have hcells : ∀ q, q < n.toNat * es → ((Array.range (n.toNat * es)).map fun q => z.cells[q % z.cells.size]!)[q]? = some (z.cells[q % es]!) := by
    intro q hq; simp [hq, hzs]
  refine ⟨.slice (some ⟨w.heap.size, 0, none⟩) n.toNat n.toNat, w.alloc (.cells ((Array.range (n.toNat * es)).map fun q => z.cells[q % z.cells.size]!) e), H, β ++ [some (w.heap.size, es, n.toNat)], .inl ?_, .refl _ _, .append _ _, ?_, ?_⟩
  · by_cases hn0 : n = 0
    · subst hn0
      have hr0 : ∀ f : Nat → Value, (Array.range 0).map f = #[] := fun f => by apply Array.eq_empty_of_size_eq_zero; simp
      have hw0 : IntKind.i64.wrap 0 = 0 := hw
      simp [execOp, ho, e1, e2, Instr.makeSlice, run_underlying (under_elem he), asInt, asIntOf, typeInfo, hi, hw0, newRow, sizeOf, hr0]
    · have hne : n.toNat * es ≠ 0 := Nat.mul_ne_zero (by omega) (by omega)
      have hlt : ¬ n < 0 := by omega
      have hb' : ¬ (281474976710656 < (i.bytes : Int) * n) := by omega
      simp [execOp, ho, e1, e2, Instr.makeSlice, run_underlying (under_elem he), asInt, asIntOf, typeInfo, hi, hw, newRow, sizeOf, hlt, hb', hsz', hne, zeroValue, hzz]
  · have : Rep H (β ++ [some (w.heap.size, es, n.toNat)]) (.ms st.mem.length es 0 n.toNat) (.slice (some ⟨w.heap.size, 0 * es, none⟩) n.toNat n.toNat) :=
      .ms (b := w.heap.size) (capT := n.toNat) (by rw [← h.sat.hl]; simp) (by omega) (Nat.le_refl _) (by unfold BIG; omega)
    simpa using this
  · refine h.sat.alloc_own (by simp) (by simp) ?_ ?_ ?_
    · intro r hr; rw [(List.mem_replicate.1 hr).2]; exact hzl
    · intro r hr; rw [(List.mem_replicate.1 hr).2]; exact z2
    · intro q r j c hq hj
      have hq' := (List.getElem?_eq_some_iff.1 hq).1
      have hr := (List.mem_replicate.1 (List.mem_of_getElem? hq)).2
      subst hr
      have hjl := (List.getElem?_eq_some_iff.1 hj).1
      simp at hq'
      have hlt : q * es + j < n.toNat * es := by
        have : (q + 1) * es ≤ n.toNat * es := Nat.mul_le_mul_right _ (by omega)
        rw [Nat.add_mul] at this; omega
      have e3 : (q * es + j) % es = j := by rw [Nat.mul_comm, Nat.mul_add_mod, Nat.mod_eq_of_lt (by omega)]
      have hjz : j < z.cells.size := by omega
      refine ⟨z.cells[j], ?_, z3 j c _ hj (by simp [hjz])⟩
      rw [hcells _ hlt, e3]
      simp [hjz]


theorem evK_sound {k : K} {r : Ev} (h : Rel H F β N st a w) (hc : chkK P k o.op = true) (he : evK k st.env st.mem = some r) (hs : r.1) : Good P H F β o a w r.2.1 r.2.2 := by
  generalize hop : o.op = op at hc
  unfold chkK at hc
  split at hc
  · -- mv, move
    simp only [evK, Option.some.injEq] at he; subst he
    exact snd_mv h hc (.inl hop)
  · simp only [evK, Option.some.injEq] at he; subst he
    exact snd_mv h hc (.inr hop)
  · -- pick
    simp only [Bool.and_eq_true] at hc
    obtain ⟨⟨c1, c2⟩, c3⟩ := hc
    simp only [evK] at he
    split at he
    · rename_i t ht
      split at he
      · rename_i p v hp
        cases he
        exact snd_pick h c1 c2 c3 hop ht hp hs
      · cases he
    · cases he
  · -- boxi
    simp only [Bool.and_eq_true, beq_iff_eq] at hc
    simp only [evK, Option.some.injEq] at he; subst he
    exact snd_boxi h hc.1 hop hs
  · simp only [Bool.and_eq_true, beq_iff_eq] at hc
    simp only [evK, Option.some.injEq] at he; subst he
    exact snd_boxm h hc.1 hop hs
  · simp only [Bool.and_eq_true, beq_iff_eq] at hc
    simp only [evK, Option.some.injEq] at he; subst he
    exact snd_alloc h hc.1 hop
  · simp only [Bool.and_eq_true] at hc
    obtain ⟨⟨c1, c2⟩, c3⟩ := hc
    simp only [evK, Option.some.injEq] at he; subst he
    exact snd_build h c1 c2 c3 hop hs
  · -- bsl
    simp only [Bool.and_eq_true, beq_iff_eq, decide_eq_true_eq] at hc
    obtain ⟨⟨⟨⟨c1, c2⟩, c3⟩, c4⟩, c5⟩ := hc
    split at c1
    · rename_i e hee
      simp only [Bool.and_eq_true, beq_iff_eq] at c1
      simp only [evK, Option.some.injEq] at he; subst he
      exact snd_bsl h hee c1.1 c1.2 c2 c3 c4 c5 hop hs
    · cases c1
  · simp only [Bool.and_eq_true, beq_iff_eq, decide_eq_true_eq] at hc
    obtain ⟨⟨⟨⟨c1, c2⟩, c3⟩, c4⟩, c5⟩ := hc
    split at c1
    · rename_i e hee
      simp only [Bool.and_eq_true, beq_iff_eq] at c1
      simp only [evK, Option.some.injEq] at he; subst he
      exact snd_bslm h hee c1.1 c1.2 c2 c3 c4 c5 hop hs
    · cases c1
  · -- bsl0
    simp only [Bool.and_eq_true, beq_iff_eq] at hc
    obtain ⟨⟨c1, rfl⟩, c3⟩ := hc
    split at c1
    · rename_i e hee
      obtain ⟨es, hes⟩ := Option.isSome_iff_exists.1 c1
      simp only [evK, Option.some.injEq] at he; subst he
      exact snd_bsl0 h hee hes c3 hop
    · cases c1
  · -- load none
    simp only [Bool.and_eq_true, beq_iff_eq] at hc
    simp only [evK] at he
    split at he
    · rename_i cs hx
      cases cs with
      | nil => simp at he
      | cons c cs =>
        simp only [List.head?_cons, Option.some.injEq] at he
        cases he
        exact (snd_load_none_ip h hc.1 hop hc.2 hx).good h
    · rename_i i q off hx
      split at he
      · rename_i es rows hi
        split at he
        · rename_i row hr
          split at he
          · rename_i c hj
            cases he
            exact (snd_load_none_mp h hc.1 hop hc.2 hx hi hr hj).good h
          · cases he
        · cases he
      · cases he
    · cases he
  · -- load some
    simp only [Bool.and_eq_true, beq_iff_eq] at hc
    obtain ⟨⟨c1, c2⟩, c3⟩ := hc
    simp only [evK] at he
    split at he
    · rename_i cs hx
      cases he
      exact (snd_load_some_ip h c1 hop c2 c3 hx hs).good h
    · rename_i i q off hx
      split at he
      · rename_i es rows hi
        split at he
        · rename_i row hr
          cases he
          exact (snd_load_some_mp h c1 hop c2 c3 hx hi hr hs).good h
        · cases he
      · cases he
    · cases he
  · -- store
    simp only [Bool.and_eq_true, beq_iff_eq] at hc
    obtain ⟨⟨c1, c2⟩, c3⟩ := hc
    simp only [evK] at he
    split at he
    · rename_i i q off hx
      split at he
      · rename_i es rows hi
        split at he
        · rename_i row hr
          cases he
          exact snd_store h c1 c2 hop c3 hx hi hr hs
        · cases he
      · cases he
    · cases he
  · -- nilc
    simp only [evK] at he
    split at he
    · rename_i cs hx
      cases he
      have := snd_nilc (P := P) h hc hop (.inl ⟨cs, hx⟩)
      rw [hx] at this; exact this
    · rename_i i q f hx
      cases he
      have := snd_nilc (P := P) h hc hop (.inr ⟨i, q, f, hx⟩)
      rw [hx] at this; exact this
    · cases he
  · -- bin
    simp only [Bool.and_eq_true, beq_iff_eq] at hc
    obtain ⟨⟨rfl, c2⟩, c3⟩ := hc
    simp only [evK] at he
    split at he
    · rename_i p v hb
      cases he
      exact snd_bin h c2 c3 hop hb hs
    · cases he
  · -- beq
    simp only [Bool.and_eq_true, beq_iff_eq] at hc
    obtain ⟨⟨⟨rfl, c2⟩, c3⟩, c4⟩ := hc
    simp only [evK] at he
    split at he
    · rename_i u v h1 h2
      cases he
      exact (snd_beq h c2 c3 c4 hop h1 h2).1 rfl
    · rename_i u v h1 h2
      cases he
      exact (snd_beq h c2 c3 c4 hop h1 h2).2 rfl
    · cases he
  · -- not
    simp only [evK] at he
    split at he
    · rename_i b hx
      cases he
      exact snd_not h hc hop hx
    · cases he
  · -- neg
    simp only [evK] at he
    split at he
    · rename_i k n hx
      cases he
      exact snd_neg h hc hop hx hs
    · cases he
  · -- conv
    simp only [Bool.and_eq_true] at hc
    simp only [evK] at he
    split at he
    · rename_i k n hx
      cases he
      exact snd_conv h hc.1.1 hop hc.1.2 (Option.isSome_iff_exists.1 hc.2) hx
    · cases he
  · -- b2s
    simp only [Bool.and_eq_true] at hc
    obtain ⟨⟨c1, c2⟩, c3⟩ := hc
    split at c3
    · rename_i e hee
      simp only [evK] at he
      split at he
      · rename_i rows hr
        cases he
        exact snd_b2s h c1 hop c2 hee c3 hr hs.1 hs.2
      · cases he
    · cases c3
  · -- sub
    simp only [Bool.and_eq_true] at hc
    obtain ⟨⟨⟨c1, c2⟩, c3⟩, c4⟩ := hc
    simp only [evK] at he
    split at he
    · rename_i s hx
      split at he
      · rename_i l u hl hu
        cases he
        exact snd_sub h c1 c2 c3 hop c4 hl hx hu hs
      · cases he
    · cases he
  · -- slc
    simp only [Bool.and_eq_true] at hc
    obtain ⟨⟨⟨c1, c2⟩, c3⟩, c4⟩ := hc
    split at c4
    · rename_i e hee
      have c4' := beq_iff_eq.1 c4
      simp only [evK] at he
      split at he
      · rename_i es rows hx
        split at he
        · rename_i l u hl hu
          cases he
          exact (snd_slc (u := u) h c1 c2 c3 hop hee c4' hl).1 _ _ hs.1 hx hu hs.2
        · cases he
      · rename_i i es off len hx
        split at he
        · rename_i l u hl hu
          cases he
          exact (snd_slc (u := u) h c1 c2 c3 hop hee c4' hl).2.1 _ _ _ _ hs.1 hx hu hs.2
        · cases he
      · rename_i hx
        split at he
        · rename_i l u hl hu
          cases he
          exact (snd_slc (u := u) h c1 c2 c3 hop hee c4' hl).2.2 hx hu hs
        · cases he
      · cases he
    · cases c4
  · -- fa
    simp only [Bool.and_eq_true] at hc
    obtain ⟨c1, c2⟩ := hc
    split at c2
    · rename_i off' t' hf
      simp only [Bool.and_eq_true, beq_iff_eq] at c2
      obtain ⟨rfl, c3⟩ := c2
      split at c3
      · rename_i n hn
        have c3' := of_decide_eq_true c3
        simp only [evK] at he
        split at he
        · rename_i cs hx
          cases he
          exact (snd_fa h c1 hop hf hn c3').1 cs hx hs
        · rename_i i q f' hx
          cases he
          exact (snd_fa h c1 hop hf hn c3').2 i q f' hx
        · cases he
      · cases c3
    · cases c2
  · -- field none
    simp only [Bool.and_eq_true] at hc
    obtain ⟨c1, c2⟩ := hc
    split at c2
    · rename_i off' t' hf
      simp only [Bool.and_eq_true, beq_iff_eq] at c2
      obtain ⟨rfl, c3⟩ := c2
      simp only [evK] at he
      split at he
      · rename_i cs hx
        split at he
        · rename_i c hj
          cases he
          exact snd_field_none h c1 hop hf c3 hx hj
        · cases he
      · cases he
    · cases c2
  · -- field some
    simp only [Bool.and_eq_true] at hc
    obtain ⟨c1, c2⟩ := hc
    split at c2
    · rename_i off' t' hf
      simp only [Bool.and_eq_true, beq_iff_eq] at c2
      obtain ⟨⟨rfl, c3⟩, c4⟩ := c2
      simp only [evK] at he
      split at he
      · rename_i cs hx
        cases he
        exact snd_field_some h c1 hop hf c3 c4 hx hs
      · cases he
    · cases c2
  · -- ia
    simp only [Bool.and_eq_true] at hc
    obtain ⟨⟨c1, c2⟩, c3⟩ := hc
    split at c3
    · rename_i e hee
      have c3' := beq_iff_eq.1 c3
      simp only [evK] at he
      split at he
      · rename_i es' rows k n hx hn
        cases he
        exact (snd_ia h c1 c2 hop hee c3').1 _ _ _ _ hx hn hs
      · rename_i m es' off len k n hx hn
        cases he
        exact (snd_ia h c1 c2 hop hee c3').2 _ _ _ _ _ _ hx hn hs
      · cases he
    · cases c3
  · -- idx
    simp only [Bool.and_eq_true] at hc
    obtain ⟨⟨c1, c2⟩, c3⟩ := hc
    simp only [evK] at he
    split at he
    · rename_i s k n hx hn
      cases he
      exact snd_idx h c1 c2 hop c3 hx hn hs.1 hs.2
    · cases he
  · -- lens
    split at hc
    · rename_i y t ha hat
      simp only [Bool.and_eq_true] at hc
      simp only [evK] at he
      split at he
      · rename_i s hx
        cases he
        exact snd_lens h hc.1 hop rfl ha hat hc.2 hx
      · cases he
    · cases hc
  · -- lenl
    split at hc
    · rename_i y t ha hat
      simp only [Bool.and_eq_true] at hc
      obtain ⟨e, hee⟩ := Option.isSome_iff_exists.1 hc.2
      simp only [evK] at he
      split at he
      · rename_i es rows hx
        cases he
        exact (snd_lenl h hc.1 hop rfl ha hat hee).1 _ _ hx
      · rename_i i es off len hx
        cases he
        exact (snd_lenl h hc.1 hop rfl ha hat hee).2.1 _ _ _ _ hx
      · rename_i hx
        cases he
        exact (snd_lenl h hc.1 hop rfl ha hat hee).2.2 hx
      · cases he
    · cases hc
  · -- app
    split at hc
    · rename_i x' y' t u ha hat
      simp only [Bool.and_eq_true] at hc
      obtain ⟨⟨⟨c1, c2⟩, c3⟩, c4⟩ := hc
      split at c4
      · rename_i e hee
        simp only [Bool.and_eq_true, beq_iff_eq, decide_eq_true_eq] at c4
        obtain ⟨⟨d1, d2⟩, d3⟩ := c4
        split at d3
        · rename_i i hi
          simp only [Bool.and_eq_true, decide_eq_true_eq] at d3
          obtain ⟨f1, f2⟩ := d3
          split at f2
          · rename_i z hz
            have f2' := beq_iff_eq.1 f2
            simp only [evK] at he
            split at he
            · rename_i ys hy
              exact snd_app h c1 c2 hop rfl ha hat hee c3 d1 d2 hi f1 hz f2' hy he hs
            · cases he
          · cases f2
        · cases d3
      · cases c4
    · cases hc
  · -- apps
    split at hc
    · rename_i x' y' t u ha hat
      simp only [Bool.and_eq_true] at hc
      obtain ⟨⟨⟨c1, c2⟩, c3⟩, c4⟩ := hc
      split at c4
      · rename_i e hee
        simp only [Bool.and_eq_true, beq_iff_eq] at c4
        obtain ⟨⟨d1, d2⟩, d3⟩ := c4
        split at d3
        · rename_i i hi
          simp only [Bool.and_eq_true, decide_eq_true_eq] at d3
          obtain ⟨f1, f2⟩ := d3
          split at f2
          · rename_i z hz
            have f2' := beq_iff_eq.1 f2
            simp only [evK] at he
            split at he
            · rename_i s hy
              exact snd_apps h c1 c2 hop rfl ha hat hee c3 d2 hi f1 hz f2' hy he hs
            · cases he
          · cases f2
        · cases d3
      · cases c4
    · cases hc
  · -- ext
    simp only [Bool.and_eq_true, beq_iff_eq] at hc
    obtain ⟨c1, rfl⟩ := hc
    simp only [evK] at he
    split at he
    · rename_i vs hx
      split at he
      · rename_i v hv
        cases he
        exact snd_ext h c1 hop hx hv
      · cases he
    · cases he
  · -- mkfn
    simp only [Bool.and_eq_true, beq_iff_eq] at hc
    obtain ⟨⟨rfl, c2⟩, c3⟩ := hc
    simp only [evK, Option.some.injEq] at he; subst he
    exact snd_mkfn h c3 c2 hop
  · -- mks
    simp only [Bool.and_eq_true] at hc
    obtain ⟨⟨c1, c2⟩, c3⟩ := hc
    split at c3
    · rename_i e hee
      simp only [Bool.and_eq_true, beq_iff_eq, decide_eq_true_eq] at c3
      obtain ⟨⟨⟨⟨d1, d2⟩, d3⟩, d4⟩, d5⟩ := c3
      split at d5
      · rename_i i hi
        have d5' := of_decide_eq_true d5
        simp only [evK] at he
        split at he
        · rename_i k n hx
          cases he
          exact snd_mks h c1 c2 hop hee d1 d4 d2 d3 hi d5' hx hs
        · cases he
      · cases d5
    · cases c3
  · -- mx
    split at hc
    · rename_i x' y' ha
      simp only [Bool.and_eq_true] at hc
      simp only [evK] at he
      split at he
      · rename_i k m k' n hx hy
        cases he
        obtain rfl : k = k' := hs
        exact snd_mx (b := true) h hc.1 hc.2 hop rfl ha hx hy
      · cases he
    · cases hc
  · -- mx
    split at hc
    · rename_i x' y' ha
      simp only [Bool.and_eq_true] at hc
      simp only [evK] at he
      split at he
      · rename_i k m k' n hx hy
        cases he
        obtain rfl : k = k' := hs
        exact snd_mx (b := false) h hc.1 hc.2 hop rfl ha hx hy
      · cases he
    · cases hc
  · simp [evK] at he
  · simp [evK] at he
  · cases hc
end
end Go.Fw
