/- The compact operations stand for the model's, second part: arithmetic, addresses, stores. -/
import Derived.Test.YteldjoikaepijaaFw5
import Derived.Laws.Strings
import Derived.Laws.Small
import Derived.Laws.StructEq
namespace Go.Fw
open Go
section
variable {P : Program} {H : Hp} {F : Fr} {β : Bt} {N : Nat} {st : St} {a : Act} {w : World} {o : Oper}

theorem wrap_id (k : IntKind) (n : Int) (h : InR k n) : k.wrap n = n := by
  unfold InR at h
  cases k
  · exact IntWalk.i8_in n h
  · exact IntWalk.i16_in n h
  · exact IntWalk.i32_in n h
  · exact IntWalk.i64_in n h
  · exact IntWalk.u8_in n h
  · exact IntWalk.u16_in n h
  · exact IntWalk.u32_in n h
  · exact IntWalk.u64_in n h

theorem wrap_in (k : IntKind) (n : Int) : InR k (k.wrap n) := by
  unfold InR IntKind.wrap IntKind.min IntKind.max
  cases k <;> simp [IntKind.bits, IntKind.signed] <;> (first | omega | (split <;> omega))

theorem tmod_in (k : IntKind) (x y : Int) (h : InR k x) : InR k (x.tmod y) := by
  have hk : k.min ≤ 0 ∧ 0 ≤ k.max := by cases k <;> decide
  unfold InR at *
  rcases Int.le_total 0 x with hx | hx
  · have h1 := Int.tmod_nonneg y hx
    have h2 : x.tmod y ≤ x := by
      obtain ⟨n, rfl⟩ := Int.eq_ofNat_of_zero_le hx
      have := Int.natAbs_tmod n y
      rcases Int.le_total 0 ((n : Int).tmod y) with h3 | h3
      · have h4 : (((n : Int).tmod y).natAbs : Int) = (n : Int).tmod y := Int.natAbs_of_nonneg h3
        rw [this] at h4
        have h5 : n % y.natAbs ≤ n := Nat.mod_le _ _
        simp at h4; omega
      · omega
    omega
  · have h1 : x.tmod y = -((-x).tmod y) := by rw [Int.neg_tmod]; omega
    have h2 := Int.tmod_nonneg y (show 0 ≤ -x by omega)
    have h3 : (-x).tmod y ≤ -x := by
      obtain ⟨n, hn⟩ := Int.eq_ofNat_of_zero_le (show 0 ≤ -x by omega)
      rw [hn]
      have := Int.natAbs_tmod n y
      have h4 : (((n : Int).tmod y).natAbs : Int) = (n : Int).tmod y := Int.natAbs_of_nonneg (Int.tmod_nonneg y (by omega))
      rw [this] at h4
      have h5 : n % y.natAbs ≤ n := Nat.mod_le _ _
      simp at h4; omega
    omega

theorem evArith_rep {k : IntKind} {n : Int} (hs : (evArith k n).1) : Rep H β (evArith k n).2 (.int k (k.wrap n)) := by
  cases k <;> simp only [evArith] at hs ⊢ <;> first
    | (rw [wrap_id _ _ hs]; exact .int hs)
    | exact .int (wrap_in _ n)

theorem bytes_eq {s : List UInt8} : (ByteArray.mk s.toArray).toList = s := ByteArray.toList_mk s

theorem evBin_rep {op : BinOp} {x y : AV} {u v : Value} {p : Prop} {r : AV} (t : TypeId) (hx : Rep H β x u) (hy : Rep H β y v) (he : evBin op x y = some (p, r)) (hs : p) :
    ∃ z, (binOp op t u v).run P w = .ok z w ∧ Rep H β r z ∧ (∀ X Y, eqGuard op t X Y u v = pure ()) := by
  unfold evBin at he
  split at he
  · rename_i k m k' n
    obtain ⟨rfl, hm⟩ := rep_int hx
    obtain ⟨rfl, hn⟩ := rep_int hy
    have hg : ∀ X Y, eqGuard op t X Y (.int k m) (.int k' n) = pure () := by intro X Y; unfold eqGuard; split <;> rfl
    cases op <;> simp only [reduceCtorEq, Option.some.injEq, Prod.mk.injEq] at he
    case add => obtain ⟨rfl, rfl⟩ := he; obtain ⟨rfl, hs⟩ := hs; exact ⟨_, by simp [binOp, Op.intArith], evArith_rep hs, hg⟩
    case sub => obtain ⟨rfl, rfl⟩ := he; obtain ⟨rfl, hs⟩ := hs; exact ⟨_, by simp [binOp, Op.intArith], evArith_rep hs, hg⟩
    case mul => obtain ⟨rfl, rfl⟩ := he; obtain ⟨rfl, hs⟩ := hs; exact ⟨_, by simp [binOp, Op.intArith], evArith_rep hs, hg⟩
    case quo => obtain ⟨rfl, rfl⟩ := he; obtain ⟨rfl, h0, hs⟩ := hs; exact ⟨_, by simp [binOp, Op.intDiv, h0], evArith_rep hs, hg⟩
    case rem => obtain ⟨rfl, rfl⟩ := he; obtain ⟨rfl, h0⟩ := hs; exact ⟨.int k (m.tmod n), by simp [binOp, Op.intDiv, h0], .int (tmod_in k m n hm), hg⟩
    case eql => obtain ⟨rfl, rfl⟩ := he; subst hs; exact ⟨.bool (m == n), by simp [binOp, Op.intCmp], .bool, hg⟩
    case neq => obtain ⟨rfl, rfl⟩ := he; subst hs; exact ⟨.bool (m != n), by simp [binOp, Op.intCmp], .bool, hg⟩
    case lss => obtain ⟨rfl, rfl⟩ := he; subst hs; exact ⟨.bool (decide (m < n)), by simp [binOp, Op.intCmp], .bool, hg⟩
    case leq => obtain ⟨rfl, rfl⟩ := he; subst hs; exact ⟨.bool (decide (m ≤ n)), by simp [binOp, Op.intCmp], .bool, hg⟩
    case gtr => obtain ⟨rfl, rfl⟩ := he; subst hs; exact ⟨.bool (decide (m > n)), by simp [binOp, Op.intCmp], .bool, hg⟩
    case geq => obtain ⟨rfl, rfl⟩ := he; subst hs; exact ⟨.bool (decide (m ≥ n)), by simp [binOp, Op.intCmp], .bool, hg⟩
    case xor => obtain ⟨rfl, rfl⟩ := he; subst hs; exact ⟨_, by simp [binOp, Op.intBits], .int (wrap_in _ _), hg⟩
    case and => obtain ⟨rfl, rfl⟩ := he; subst hs; exact ⟨_, by simp [binOp, Op.intBits], .int (wrap_in _ _), hg⟩
  · rename_i s t'
    obtain ⟨rfl, hm⟩ := rep_str hx
    obtain ⟨rfl, hn⟩ := rep_str hy
    have hg : ∀ X Y, eqGuard op t X Y (.string ⟨s.toArray⟩) (.string ⟨t'.toArray⟩) = pure () := by intro X Y; unfold eqGuard; split <;> rfl
    have e1 := bytes_eq (s := s)
    have e2 := bytes_eq (s := t')
    have e3 : ∀ a b : List UInt8, (decide (a = b)) = (a == b) := by intro a b; rw [Bool.eq_iff_iff]; simp
    cases op <;> simp only [reduceCtorEq, Option.some.injEq, Prod.mk.injEq] at he
    case add =>
      obtain ⟨rfl, rfl⟩ := he
      have hsz : ¬ ((((ByteArray.mk s.toArray).size + (ByteArray.mk t'.toArray).size : Nat) : Int) > IntKind.i64.max) := by
        have h2 : IntKind.i64.max = 9223372036854775807 := by decide
        simp [ByteArray.size, h2]; unfold BIG at hs; omega
      refine ⟨.string ⟨(s ++ t').toArray⟩, ?_, .str (by simpa using hs), hg⟩
      simp only [binOp, Op.stringOp]
      rw [if_neg hsz]
      simp
      apply ByteArray.ext
      simp
    case eql => obtain ⟨rfl, rfl⟩ := he; exact ⟨.bool (s == t'), by simp [binOp, Op.stringOp, e1, e2], .bool, hg⟩
    case neq => obtain ⟨rfl, rfl⟩ := he; exact ⟨.bool (s != t'), by simp [binOp, Op.stringOp, e1, e2, bne], .bool, hg⟩
    case lss => obtain ⟨rfl, rfl⟩ := he; exact ⟨_, by simp [binOp, Op.stringOp, e1, e2], .bool, hg⟩
    case leq => obtain ⟨rfl, rfl⟩ := he; exact ⟨_, by simp [binOp, Op.stringOp, e1, e2], .bool, hg⟩
    case gtr => obtain ⟨rfl, rfl⟩ := he; exact ⟨.bool (!(Op.bytesLess s t' || s == t')), by simp [binOp, Op.stringOp, e1, e2], .bool, hg⟩
    case geq => obtain ⟨rfl, rfl⟩ := he; exact ⟨_, by simp [binOp, Op.stringOp, e1, e2], .bool, hg⟩
  · cases he

theorem snd_bin {op : BinOp} {x y : Ar} {x' y' : Operand} {t t' : TypeId} {p : Prop} {r : AV} (h : Rel H F β N st a w) (hx : chkAr x x' = true) (hy : chkAr y y' = true)
    (ho : o.op = .binOp op t x' y' t') (he : evBin op (ar st.env x) (ar st.env y) = some (p, r)) (hs : p) : Good P H F β o a w r st.mem := by
  obtain ⟨z, hz, hr, hg⟩ := evBin_rep (P := P) (w := w) t (h.ar hx) (h.ar hy) he hs
  exact .same h (by simp [execOp, ho, hg, hz]) hr

theorem snd_beq {op : BinOp} {x y : Ar} {x' y' : Operand} {t t' : TypeId} {u v : Bool} (h : Rel H F β N st a w) (hx : chkAr x x' = true) (hy : chkAr y y' = true) (ht : isBool P t = true)
    (ho : o.op = .binOp op t x' y' t') (h1 : ar st.env x = .bool u) (h2 : ar st.env y = .bool v) :
    (op = .eql → Good P H F β o a w (.bool (u == v)) st.mem) ∧ (op = .neq → Good P H F β o a w (.bool (u != v)) st.mem) := by
  have r1 := h.ar hx; rw [h1] at r1; have e1 := rep_bool r1
  have r2 := h.ar hy; rw [h2] at r2; have e2 := rep_bool r2
  have hu := under_bool ht
  have hq := run_equal_bool (P := P) w t u v hu
  constructor
  · rintro rfl
    refine .same (x := .bool (u == v)) h ?_ .bool
    have hg : eqGuard .eql t x' y' (.bool u) (.bool v) = pure () := by unfold eqGuard; rfl
    have hb : binOp .eql t (.bool u) (.bool v) = (do pure (.bool (← Op.equal t (.bool u) (.bool v)))) := rfl
    simp only [execOp, ho, e1, e2, hg, hb, Sem.run_bind, hq, Sem.run_pure, Result.andThen_ok]
  · rintro rfl
    refine .same (x := .bool (u != v)) h ?_ .bool
    have hg : eqGuard .neq t x' y' (.bool u) (.bool v) = pure () := by unfold eqGuard; rfl
    have hb : binOp .neq t (.bool u) (.bool v) = (do pure (.bool (!(← Op.equal t (.bool u) (.bool v))))) := rfl
    simp only [execOp, ho, e1, e2, hg, hb, Sem.run_bind, hq, Sem.run_pure, Result.andThen_ok, bne]

theorem snd_not {x : Ar} {y : Operand} {t : TypeId} {b : Bool} (h : Rel H F β N st a w) (hc : chkAr x y = true) (ho : o.op = .unOp .not t y) (hx : ar st.env x = .bool b) :
    Good P H F β o a w (.bool (!b)) st.mem := by
  have r := h.ar hc; rw [hx] at r; have e := rep_bool r
  exact .same (x := .bool (!b)) h (by simp [execOp, ho, e, Op.unary]) .bool

theorem snd_neg {x : Ar} {y : Operand} {t : TypeId} {k : IntKind} {n : Int} (h : Rel H F β N st a w) (hc : chkAr x y = true) (ho : o.op = .unOp .neg t y) (hx : ar st.env x = .int k n)
    (hs : (evArith k (0 - n)).1) : Good P H F β o a w (evArith k (0 - n)).2 st.mem := by
  have r := h.ar hc; rw [hx] at r; have e := (rep_int r).1
  exact .same (x := .int k (k.wrap (0 - n))) h (by simp [execOp, ho, e, Op.unary, Op.intArith]) (evArith_rep hs)

theorem snd_conv {x : Ar} {y : Operand} {s t : TypeId} {k k' : IntKind} {n : Int} (h : Rel H F β N st a w) (hc : chkAr x y = true) (ho : o.op = .convert s t y) (ht : isIntK P t k = true)
    (hsrc : ∃ d, P.underlying s = some d) (hx : ar st.env x = .int k' n) : Good P H F β o a w (.int k (k.wrap n)) st.mem := by
  have r := h.ar hc; rw [hx] at r; have e := (rep_int r).1
  obtain ⟨d, hd⟩ := hsrc
  refine .same (x := .int k (k.wrap n)) h ?_ (.int (wrap_in k n))
  simp only [execOp, ho, e, convert, run_underlying hd, run_underlying (under_int ht), Sem.run_bind, Result.andThen_ok]
  cases d <;> simp [Conv.intToInt]

theorem snd_nilc {x : Ar} {y : Operand} (h : Rel H F β N st a w) (hc : chkAr x y = true) (ho : o.op = .nilCheck y)
    (hx : (∃ cs, ar st.env x = .ip cs) ∨ (∃ i r f, ar st.env x = .mp i r f)) : Good P H F β o a w (ar st.env x) st.mem := by
  have r := h.ar hc
  generalize he : a.eval y = av at r
  rcases hx with ⟨cs, hx⟩ | ⟨i, r', f, hx⟩
  · rw [hx] at r ⊢
    cases r with
    | ip f hH hcs hcell hrep => exact .same h (by simp [execOp, ho, he]) (.ip f hH hcs hcell hrep)
  · rw [hx] at r ⊢
    cases r with
    | mp hβ => exact .same h (by simp [execOp, ho, he]) (.mp hβ)

theorem snd_fa {x : Ar} {y : Operand} {t t' : TypeId} {f off n : Nat} (h : Rel H F β N st a w) (hc : chkAr x y = true) (ho : o.op = .fieldAddr t y f) (hf : fieldB P t f = some (off, t'))
    (hz : szB P t' = some n) (hn : 0 < n) :
    (∀ cs, ar st.env x = .ip cs → off ≤ cs.length → Good P H F β o a w (.ip (cs.drop off)) st.mem) ∧
    (∀ i r f', ar st.env x = .mp i r f' → Good P H F β o a w (.mp i r (f' + off)) st.mem) := by
  obtain ⟨fs, fd, h1, h2, h3, h4⟩ := field_of hf
  have hn0 : n ≠ 0 := by omega
  have run : ∀ b off', a.eval y = .pointer (some ⟨b, off', none⟩) → (execOp a.eval o).run P w = .ok (.value (.pointer (some ⟨b, off' + off, none⟩))) w := by
    intro b off' he
    simp [execOp, ho, he, Instr.fieldAt, Instr.sureAddr, fieldPlace, run_underlying h1, h2, h4, run_size hz, hn0, h3, addr_add]
  constructor
  · intro cs hx hl
    have r := h.ar hc
    rw [hx] at r
    generalize he : a.eval y = av at r
    cases r with
    | @ip _ _ b o' cells elem fz g hH hcs hcell hrep =>
      refine .same h (run b o' he) (.ip (fun j => g (off + j)) hH (fun j hj => ?_) (fun c hc => hcell c (List.mem_of_mem_drop hc)) fun j c hj => ?_)
      · have := hcs (off + j) (by simp at hj; omega)
        rw [Nat.add_assoc]; exact this
      · rw [List.getElem?_drop] at hj
        exact hrep (off + j) c hj
  · intro i r' f' hx
    have r := h.ar hc
    rw [hx] at r
    generalize he : a.eval y = av at r
    cases r with
    | @mp _ _ _ _ b es capT hβ =>
      refine .same h (run b _ he) ?_
      rw [Nat.add_assoc]
      exact .mp hβ

theorem snd_field_none {x : Ar} {y : Operand} {t t' : TypeId} {f off : Nat} {cs : List AV} {c : AV} (h : Rel H F β N st a w) (hc : chkAr x y = true) (ho : o.op = .field t y f)
    (hf : fieldB P t f = some (off, t')) (ha : aggB P t' = some false) (hx : ar st.env x = .agg cs) (hj : cs[off]? = some c) : Good P H F β o a w c st.mem := by
  obtain ⟨fs, fd, h1, h2, h3, h4⟩ := field_of hf
  have r := h.ar hc
  rw [hx] at r
  generalize he : a.eval y = av at r
  cases r with
  | @agg _ _ vs hl hcell hrep =>
    have hlt : off < vs.size := by have := (List.getElem?_eq_some_iff.1 hj).1; omega
    refine .same (x := vs[off]) h ?_ (hrep off c _ hj (Array.getElem?_eq_getElem hlt))
    simp [execOp, ho, he, Instr.field, run_underlying h1, h2, h4, asAgg, part, run_agg ha, h3, hlt]

theorem snd_field_some {x : Ar} {y : Operand} {t t' : TypeId} {f off n : Nat} {cs : List AV} (h : Rel H F β N st a w) (hc : chkAr x y = true) (ho : o.op = .field t y f)
    (hf : fieldB P t f = some (off, t')) (ha : aggB P t' = some true) (hz : szB P t' = some n) (hx : ar st.env x = .agg cs) (hn : off + n ≤ cs.length) :
    Good P H F β o a w (.agg ((cs.drop off).take n)) st.mem := by
  obtain ⟨fs, fd, h1, h2, h3, h4⟩ := field_of hf
  have r := h.ar hc
  rw [hx] at r
  generalize he : a.eval y = av at r
  cases r with
  | @agg _ _ vs hl hcell hrep =>
    refine .same (x := .agg (vs.extract off (off + n))) h ?_ (.agg ?_ (fun c hc => hcell c (List.mem_of_mem_drop (List.mem_of_mem_take hc))) fun k c v hk hv => ?_)
    · simp [execOp, ho, he, Instr.field, run_underlying h1, h2, h4, asAgg, part, run_agg ha, h3, run_size hz]
    · simp; omega
    · have hkn : k < n := by have := (List.getElem?_eq_some_iff.1 hk).1; simp at this; omega
      rw [List.getElem?_take] at hk
      simp [hkn] at hk
      rw [Array.getElem?_extract] at hv
      split at hv
      · exact hrep (off + k) c v hk hv
      · cases hv

theorem nth_mem {rows : List (List AV)} {i : Nat} (h : i < rows.length) : nth rows i ∈ rows := List.mem_of_getElem? (nth_eq h)

theorem snd_ia {x i : Ar} {y j : Operand} {t e : TypeId} {es : Nat} (h : Rel H F β N st a w) (hc : chkAr x y = true) (hi : chkAr i j = true) (ho : o.op = .indexAddr t y j)
    (he : elemB P t = some e) (hz : szB P e = some es) :
    (∀ es' rows k n, ar st.env x = .sl es' rows → ar st.env i = .int k n → es' = es ∧ 0 ≤ n ∧ n < rows.length → Good P H F β o a w (.ip (nth rows n.toNat)) st.mem) ∧
    (∀ m es' off len k n, ar st.env x = .ms m es' off len → ar st.env i = .int k n → es' = es ∧ 0 ≤ n ∧ n < len → Good P H F β o a w (.mp m (off + n.toNat) 0) st.mem) := by
  have hu := under_elem he
  have ri := h.ar hi
  constructor
  · intro es' rows k n hx hn ⟨h0, h1, h2⟩
    subst h0
    rw [hn] at ri
    have ei := (rep_int ri).1
    have r := h.ar hc
    rw [hx] at r
    generalize hey : a.eval y = av at r
    have hlt : n.toNat < rows.length := by omega
    cases r with
    | @sl _ _ _ a' len cap b o' cells f hlen hcap hbig hes hblk hcs hcell hrep =>
      obtain ⟨rfl, elem, fz, hH⟩ := hblk (by intro e; subst e; simp at h2; omega)
      refine .same (x := .pointer (some ⟨b, o' + n.toNat * es', none⟩)) h ?_ (.ip (f n.toNat) hH (fun q hq => ?_) (fun c hcm => hcell _ (nth_mem hlt) c hcm) fun q c hq => hrep n.toNat _ q c (nth_eq hlt) hq)
      · simp [execOp, ho, hey, ei, Instr.indexAt, asIntOf, run_underlying hu, h1, show n < (len : Int) by omega, run_size hz, addr_add]
      · have := hes _ (nth_mem hlt)
        exact hcs n.toNat q hlt (by omega)
  · intro m es' off len k n hx hn ⟨h0, h1, h2⟩
    subst h0
    rw [hn] at ri
    have ei := (rep_int ri).1
    have r := h.ar hc
    rw [hx] at r
    generalize hey : a.eval y = av at r
    cases r with
    | @ms _ _ _ _ _ b capT cap hβ hcap hlen =>
      have rm : Rep H β (.mp m (off + n.toNat) 0) (.pointer (some ⟨b, (off + n.toNat) * es' + 0, none⟩)) := .mp hβ
      have e2 : off * es' + n.toNat * es' = (off + n.toNat) * es' + 0 := by rw [Nat.add_mul]; rfl
      refine .same (x := .pointer (some ⟨b, off * es' + n.toNat * es', none⟩)) h ?_ (by rw [e2]; exact rm)
      simp [execOp, ho, hey, ei, Instr.indexAt, asIntOf, run_underlying hu, h1, h2, run_size hz, addr_add]
    | ms0 => omega

theorem snd_idx {x i : Ar} {y j : Operand} {t : TypeId} {s : List UInt8} {k : IntKind} {n : Int} (h : Rel H F β N st a w) (hc : chkAr x y = true) (hi : chkAr i j = true) (ho : o.op = .index t y j)
    (ht : isStr P t = true) (hx : ar st.env x = .str s) (hn : ar st.env i = .int k n) (h0 : 0 ≤ n) (h1 : n < s.length) :
    Good P H F β o a w (.int .u8 (s.getD n.toNat 0).toNat) st.mem := by
  have r := h.ar hc; rw [hx] at r; have e := (rep_str r).1
  have ri := h.ar hi; rw [hn] at ri; have ei := (rep_int ri).1
  have hlt : n.toNat < s.length := by omega
  have hg : (ByteArray.mk s.toArray)[n.toNat]? = some (s.getD n.toNat 0) := by
    rw [getElem?_pos _ _ (by simpa [ByteArray.size] using hlt)]
    simp [ByteArray.getElem_eq_getElem_data, hlt]
  refine .same (x := .int .u8 (s.getD n.toNat 0).toNat) h ?_ (.int ?_)
  · simp only [execOp, ho, e, ei, Instr.index, asIntOf, run_underlying (under_str ht), Sem.run_bind, Sem.run_pure, Result.andThen_ok, h0, if_true, hg]
  · have := (s.getD n.toNat 0).toNat_lt
    have h2 : IntKind.u8.min = 0 := by decide
    have h3 : IntKind.u8.max = 255 := by decide
    rw [h2, h3]; omega

theorem goInt_in {n : Nat} (h : n ≤ BIG) : IntKind.i64.min ≤ (n : Int) ∧ (n : Int) ≤ IntKind.i64.max := by
  have h1 : IntKind.i64.min = -9223372036854775808 := by decide
  have h2 : IntKind.i64.max = 9223372036854775807 := by decide
  rw [h1, h2]; unfold BIG at h; omega

theorem snd_lens {x : Ar} {c : Call} {y : Operand} {t : TypeId} {s : List UInt8} (h : Rel H F β N st a w) (hc : chkAr x y = true) (ho : o.op = .call c) (hb : c.callee = .builtin .len)
    (ha : c.args.toList = [y]) (hat : c.argTypes.toList = [t]) (ht : isStr P t = true) (hx : ar st.env x = .str s) : Good P H F β o a w (.int .i64 s.length) st.mem := by
  have r := h.ar hc; rw [hx] at r; obtain ⟨e, hbig⟩ := rep_str r
  have ha' : c.args = #[y] := by rw [← Array.toArray_toList (xs := c.args), ha]
  have hat' : c.argTypes = #[t] := by rw [← Array.toArray_toList (xs := c.argTypes), hat]
  refine .same (x := .int .i64 s.length) h ?_ (.int (goInt_in hbig))
  have hsz : (ByteArray.mk s.toArray).size = s.length := by simp [ByteArray.size]
  simp [execOp, ho, resolve, hb, ha', hat', invoke, builtin, Builtin.len_, run_underlying (under_str ht), e, goInt, hsz]

theorem snd_lenl {x : Ar} {c : Call} {y : Operand} {t e : TypeId} (h : Rel H F β N st a w) (hc : chkAr x y = true) (ho : o.op = .call c) (hb : c.callee = .builtin .len)
    (ha : c.args.toList = [y]) (hat : c.argTypes.toList = [t]) (ht : elemB P t = some e) :
    (∀ es rows, ar st.env x = .sl es rows → Good P H F β o a w (.int .i64 rows.length) st.mem) ∧
    (∀ i es off len, ar st.env x = .ms i es off len → Good P H F β o a w (.int .i64 len) st.mem) ∧
    (ar st.env x = .e0 → Good P H F β o a w (.int .i64 0) st.mem) := by
  have ha' : c.args = #[y] := by rw [← Array.toArray_toList (xs := c.args), ha]
  have hat' : c.argTypes = #[t] := by rw [← Array.toArray_toList (xs := c.argTypes), hat]
  have run : ∀ b n cap, a.eval y = .slice b n cap → (execOp a.eval o).run P w = .ok (.value (.int .i64 n)) w := by
    intro b n cap he
    simp [execOp, ho, resolve, hb, ha', hat', invoke, builtin, Builtin.len_, run_underlying (under_elem ht), he, goInt]
  have r := h.ar hc
  refine ⟨fun es rows hx => ?_, fun i es off len hx => ?_, fun hx => ?_⟩
  · rw [hx] at r
    generalize he : a.eval y = av at r
    cases r with
    | sl b o' cells f hlen hcap hbig hes hblk hcs hcell hrep => subst hlen; exact .same h (run _ _ _ he) (.int (goInt_in hbig))
  · rw [hx] at r
    generalize he : a.eval y = av at r
    cases r with
    | ms hβ h1 h2 hbig => exact .same h (run _ _ _ he) (.int (goInt_in hbig))
    | ms0 hβ => exact .same h (run _ _ _ he) (.int (goInt_in (Nat.zero_le _)))
  · rw [hx] at r
    generalize he : a.eval y = av at r
    cases r with
    | e0 => exact .same h (run _ _ _ he) (.int (goInt_in (n := 0) (Nat.zero_le _)))

theorem snd_mx {x y : Ar} {c : Call} {x' y' : Operand} {b : Bool} {k : IntKind} {m n : Int} (h : Rel H F β N st a w) (hx : chkAr x x' = true) (hy : chkAr y y' = true) (ho : o.op = .call c)
    (hb : c.callee = .builtin (bif b then .max else .min)) (ha : c.args.toList = [x', y']) (ex : ar st.env x = .int k m) (ey : ar st.env y = .int k n) :
    Good P H F β o a w (.int k (bif b then max m n else min m n)) st.mem := by
  have ha' : c.args = #[x', y'] := by rw [← Array.toArray_toList (xs := c.args), ha]
  have rx := h.ar hx
  rw [ex] at rx
  have ry := h.ar hy
  rw [ey] at ry
  generalize hex : a.eval x' = ax at rx
  generalize hey : a.eval y' = ay at ry
  cases rx with
  | int h1 =>
    cases ry with
    | int h2 =>
      refine .same (x := .int k (bif b then max m n else min m n)) h ?_ (.int ?_)
      · cases b
        · simp only [cond_false] at hb ⊢
          have e : (if n < m then n else m) = min m n := by simp only [Int.min_def]; split <;> split <;> omega
          simp [execOp, ho, resolve, hb, ha', invoke, builtin, hex, hey, run_min_int2, e]
        · simp only [cond_true] at hb ⊢
          have e : (if n > m then n else m) = max m n := by simp only [Int.max_def]; split <;> split <;> omega
          simp [execOp, ho, resolve, hb, ha', invoke, builtin, hex, hey, run_max_int2, e]
      · cases b
        · simp only [cond_false, Int.min_def]; split <;> assumption
        · simp only [cond_true, Int.max_def]; split <;> assumption

end
end Go.Fw
