/- Compact code, what it means to carry it out from an abstract state to the function's end, and the rules. -/
import Derived.Test.YteldjoikaepijaaFw10
namespace Go.Fw
open Go

inductive COp where
  | mk (d : Option Nat) (g : Option (Nat × Bool)) (k : K)

abbrev O (d : Nat) (k : K) : COp := .mk (some d) none k

@[simp] def COp.d : COp → Option Nat | .mk d _ _ => d
@[simp] def COp.g : COp → Option (Nat × Bool) | .mk _ g _ => g
@[simp] def COp.k : COp → K | .mk _ _ k => k

inductive CC where
  | skip
  | reg (keep : List Nat) (ops : List COp)
  | regd (keep ord anc cls : List Nat) (ops : List COp)
  | seq (a b : CC)
  | cond (c : Ar) (a b : CC)
  | block (id : Nat) (b : CC)
  | loop (b : CC)
  | exit (id : Nat)
  | ret
  | join (b : CC)
  | frz (n es : Nat) (b : CC)
  | own (n es : Nat) (b : CC)

def chkG (os : Array Oper) : Option (Nat × Bool) → Option (Nat × Bool) → Bool
  | none, none => true
  | some (t, b), some (j, b') => b == b' && (os[j]?).bind (·.dst) == some t
  | _, _ => false

def chkOp (P : Program) (N : Nat) (os : Array Oper) (c : COp) (o : Oper) : Bool :=
  c.d == o.dst && (match c.d with | some d => decide (d < N) | none => true) && chkG os c.g o.guard && chkK P c.k o.op

def chkOps (P : Program) (N : Nat) (os : Array Oper) : List COp → List Oper → Bool
  | [], [] => true
  | c :: l, o :: l' => chkOp P N os c o && chkOps P N os l l'
  | _, _ => false

def K.ars : K → List Ar
  | .mv x | .boxi _ x | .boxm _ x | .load _ x | .nilc x | .not x | .neg x | .conv _ x | .b2s x | .fa _ x | .field _ _ x | .lens x | .lenl x | .ext x _ | .mks _ _ x => [x]
  | .pick c a b => [c, a, b]
  | .alloc _ | .bsl0 => []
  | .build _ ps => ps.map fun p => p.2.2
  | .bsl _ ps | .bslm _ ps => ps
  | .store _ a x | .bin _ a x | .beq _ a x | .ia _ a x | .idx a x | .app _ a x | .apps a x | .mx _ a x => [a, x]
  | .sub x lo hi | .slc _ x lo hi => x :: (lo.toList ++ hi.toList)
  | .call _ xs | .mkfn _ xs => xs
  | .callv f xs => f :: xs

def slots (c : COp) : List Nat :=
  (c.k.ars.filterMap fun | .t n => some n | .c _ => none) ++ (match c.g with | some (t, _) => [t] | none => [])

/-- Whom an operation must wait for. -/
def bindsTo (os : Array Oper) (j : Nat) : List Nat :=
  match os[j]? with
  | some o => (o.after.toList.filter fun e => Region.binds .any e).map (·.on)
  | none => []

def chkOrd (P : Program) (N : Nat) (os : Array Oper) : List Nat → List COp → Bool
  | [], [] => true
  | j :: ord, c :: ops => (match os[j]? with | some o => chkOp P N os c o | none => false) && chkOrd P N os ord ops
  | _, _ => false

def nodupB : List Nat → Bool
  | [] => true
  | x :: l => !l.contains x && nodupB l

/-- Every slot is written once, and read only after it was written. -/
def wfD : List COp → Bool
  | [] => true
  | c :: l => ((slots c).all fun t => c.d != some t && l.all fun c' => c'.d != some t) && (match c.d with | none => true | some d => l.all fun c' => c'.d != some d) && wfD l

def chkEdges (os : Array Oper) (ord : List Nat) : Bool :=
  (List.range ord.length).all fun i => (bindsTo os (ord.getD i 0)).all fun e => (ord.take i).contains e

def chkAnc (os : Array Oper) (ord anc : List Nat) : Bool :=
  (List.range ord.length).all fun i => (List.range i).all fun j => !(anc.getD i 0).testBit j ||
    (bindsTo os (ord.getD i 0)).any fun e => ord.getD j 0 == e || (List.range i).any fun q => decide (j < q) && ord.getD q 0 == e && (anc.getD q 0).testBit j

def chkRead (anc : List Nat) (ops : List COp) : Bool :=
  (List.range ops.length).all fun i => match ops[i]? with
    | some c => (slots c).all fun t => (List.range ops.length).all fun j => match ops[j]? with
      | some c' => c'.d != some t || (decide (j < i) && (anc.getD i 0).testBit j)
      | none => true
    | none => true

def chkCls (anc cls : List Nat) (n : Nat) : Bool :=
  (List.range n).all fun i => (List.range i).all fun j =>
    (decide (cls.getD j 0 < 2 ∨ cls.getD i 0 < 1) && decide (cls.getD j 0 < 1 ∨ cls.getD i 0 < 2)) || (anc.getD i 0).testBit j

/-- That a drawn region may be read in the order `ord`. -/
def chkD (P : Program) (N : Nat) (os : Array Oper) (ord anc cls : List Nat) (ops : List COp) : Bool :=
  chkOrd P N os ord ops && decide (ord.length = os.size ∧ cls.length = ops.length) && nodupB ord && (List.range os.size).all (fun i => ord.contains i) && wfD ops && chkEdges os ord && chkAnc os ord anc && chkRead anc ops && chkCls anc cls ops.length

def chkC (P : Program) (N : Nat) : CC → Code → Bool
  | .join b, c => chkC P N b c
  | .frz _ _ b, c => chkC P N b c
  | .own _ _ b, c => chkC P N b c
  | .skip, .skip => true
  | .skip, .label _ => true
  | .reg _ ops, .region _ os false => chkOps P N os ops os.toList
  | .regd _ ord anc cls ops, .region _ os true => chkD P N os ord anc cls ops
  | .seq a b, .seq a' b' => chkC P N a a' && chkC P N b b'
  | .cond c a b, .cond c' a' b' => chkAr c c' && chkC P N a a' && chkC P N b b'
  | .block i b, .block j b' => i == j && chkC P N b b'
  | .loop b, .loop b' => chkC P N b b'
  | .exit i, .exit j => i == j
  | .ret, .ret => true
  | _, _ => false

inductive CItem where
  | code (c : CC)
  | inBlock (id : Nat)
  | inLoop (c : CC)
  | ops (keep : List Nat) (l : List COp)
  | stop

def OpsM (P : Program) (N : Nat) (os : Array Oper) : List COp → List Nat → Prop
  | [], [] => True
  | c :: l, j :: idx => (∃ o, os[j]? = some o ∧ chkOp P N os c o = true) ∧ OpsM P N os l idx
  | _, _ => False

inductive MI (P : Program) (N : Nat) : List CItem → List Item → Prop
  | nil : MI P N [] []
  | code {c c' k k'} (h : chkC P N c c' = true) (hk : MI P N k k') : MI P N (.code c :: k) (.code c' :: k')
  | inBlock {id k k'} (hk : MI P N k k') : MI P N (.inBlock id :: k) (.inBlock id :: k')
  | inLoop {c c' k k'} (h : chkC P N c c' = true) (hk : MI P N k k') : MI P N (.inLoop c :: k) (.inLoop c' :: k')
  | ops {keep l os idx k k'} (h : OpsM P N os l idx) (hk : MI P N k k') : MI P N (.ops keep l :: k) (.inRegion os idx :: k')
  | stop {k k'} (hk : MI P N k k') : MI P N (.stop :: k) k'

structure Ctx where
  P : Program
  fn : Func
  n0 : Nat
  R : AV → List Ent → Prop

def BEq0 (n : Nat) (β β' : Bt) : Prop := ∀ i, i < n → β'[i]? = β[i]?

def Fin (C : Ctx) (H : Hp) (F : Fr) (β : Bt) (b : Frame) (cs : List Frame) (m : Machine) : Prop :=
  ∃ a' todo' w' v r m' H' β', Steps C.P m (lone { b.at a' todo' with mode := .returning } cs w') ∧ a'.defers = [] ∧ (results C.fn a'.tmps).run C.P w' = .ok v w' ∧
    C.R r m' ∧ Rep H' β' r v ∧ Sat H' F β' m' w' ∧ HX F H H' ∧ BEq0 C.n0 β β'

def AW (C : Ctx) (its : List CItem) (st : St) : Prop :=
  ∀ H F β a w b cs todo, MI C.P C.fn.ntmps its todo → Rel H F β C.fn.ntmps st a w → C.n0 ≤ st.mem.length → Fin C H F β b cs (lone (b.at a todo) cs w)

section
variable {C : Ctx} {H H' : Hp} {F : Fr} {β β' : Bt} {b : Frame} {cs : List Frame} {m m' : Machine} {k : List CItem} {st : St}

theorem Fin.steps (h : Steps C.P m m') (h' : Fin C H F β b cs m') : Fin C H F β b cs m := by
  obtain ⟨a', todo', w', v, r, mm, H1, β1, hs, rest⟩ := h'
  exact ⟨a', todo', w', v, r, mm, H1, β1, h.trans hs, rest⟩

theorem Fin.ext (hH : HX F H H') (hβ : BEq0 C.n0 β β') (h' : Fin C H' F β' b cs m) : Fin C H F β b cs m := by
  obtain ⟨a', todo', w', v, r, mm, H1, β1, hs, h1, h2, h3, h4, h5, h6, h7⟩ := h'
  exact ⟨a', todo', w', v, r, mm, H1, β1, hs, h1, h2, h3, h4, h5, hH.trans h6, fun i hi => (h7 i hi).trans (hβ i hi)⟩

theorem BExt.eq0 {n : Nat} (h : BExt β β') (hn : n ≤ β.length) : BEq0 n β β' := by
  intro i hi
  have : β[i]? = some β[i] := List.getElem?_eq_getElem (by omega)
  rw [this]; exact h i _ this

theorem AW.skip (h : AW C k st) : AW C (.code .skip :: k) st := by
  intro H F β a w b cs todo hm hr hn
  cases hm with
  | code hc hk =>
    rename_i c' k'
    cases c' <;> simp [chkC] at hc
    · exact .steps (.one step_skip) (h H F β a w b cs k' hk hr hn)
    · exact .steps (.one step_label) (h H F β a w b cs k' hk hr hn)

theorem AW.seq {x y : CC} (h : AW C (.code x :: .code y :: k) st) : AW C (.code (.seq x y) :: k) st := by
  intro H F β a w b cs todo hm hr hn
  cases hm with
  | code hc hk =>
    rename_i c' k'
    cases c' <;> simp [chkC] at hc
    exact .steps (.one step_seq) (h H F β a w b cs _ (.code hc.1 (.code hc.2 hk)) hr hn)

theorem AW.join {x : CC} (h : AW C (.code x :: .stop :: k) st) : AW C (.code (.join x) :: k) st := by
  intro H F β a w b cs todo hm hr hn
  cases hm with
  | code hc hk =>
    simp only [chkC] at hc
    exact h H F β a w b cs _ (.code hc (.stop hk)) hr hn

theorem AW.stop (h : AW C k st) : AW C (.stop :: k) st := by
  intro H F β a w b cs todo hm hr hn
  cases hm with
  | stop hk => exact h H F β a w b cs _ hk hr hn

theorem AW.block {id : Nat} {x : CC} (h : AW C (.code x :: .inBlock id :: k) st) : AW C (.code (.block id x) :: k) st := by
  intro H F β a w b cs todo hm hr hn
  cases hm with
  | code hc hk =>
    rename_i c' k'
    cases c' <;> simp [chkC] at hc
    obtain ⟨rfl, hc⟩ := hc
    exact .steps (.one step_block) (h H F β a w b cs _ (.code hc (.inBlock hk)) hr hn)

theorem AW.inBlock {id : Nat} (h : AW C k st) : AW C (.inBlock id :: k) st := by
  intro H F β a w b cs todo hm hr hn
  cases hm with
  | inBlock hk => exact .steps (.one step_inBlock) (h H F β a w b cs _ hk hr hn)

theorem AW.cond {x y : CC} {c : Ar} {t : Bool} (hc : ar st.env c = .bool t) (h1 : t = true → AW C (.code x :: k) st) (h2 : t = false → AW C (.code y :: k) st) :
    AW C (.code (.cond c x y) :: k) st := by
  intro H F β a w b cs todo hm hr hn
  cases hm with
  | code hk' hk =>
    rename_i c' k'
    cases c' <;> simp [chkC] at hk'
    obtain ⟨⟨g1, g2⟩, g3⟩ := hk'
    have r := hr.ar g1
    rw [hc] at r
    have e := rep_bool r
    refine .steps (.one (step_cond e)) ?_
    cases t
    · exact h2 rfl H F β a w b cs _ (.code g3 hk) hr hn
    · exact h1 rfl H F β a w b cs _ (.code g2 hk) hr hn

def cExit (id : Nat) : List CItem → Option (List CItem)
  | [] => none
  | .inBlock id' :: k => if id' = id then some k else cExit id k
  | _ :: k => cExit id k

theorem MI.exit {P : Program} {N id : Nat} : ∀ {k : List CItem} {todo : List Item}, MI P N k todo → ∀ {k' : List CItem}, cExit id k = some k' → ∃ todo', exitTo id todo = some todo' ∧ MI P N k' todo' := by
  intro k todo h
  induction h with
  | nil => intro k' h'; simp [cExit] at h'
  | code _ _ ih => intro k' h'; simp only [cExit] at h'; obtain ⟨t, h1, h2⟩ := ih h'; exact ⟨t, by simpa [exitTo] using h1, h2⟩
  | @inBlock id' k0 k1 hk ih =>
    intro k' h'
    simp only [cExit] at h'
    split at h'
    · rename_i e; subst e; cases h'; exact ⟨k1, by simp [exitTo], hk⟩
    · rename_i e
      obtain ⟨t, h1, h2⟩ := ih h'
      refine ⟨t, ?_, h2⟩
      have : ¬ (id = id') := fun h => e h.symm
      simp [exitTo, this, h1, e]
  | inLoop _ _ ih => intro k' h'; simp only [cExit] at h'; obtain ⟨t, h1, h2⟩ := ih h'; exact ⟨t, by simpa [exitTo] using h1, h2⟩
  | ops _ _ ih => intro k' h'; simp only [cExit] at h'; obtain ⟨t, h1, h2⟩ := ih h'; exact ⟨t, by simpa [exitTo] using h1, h2⟩
  | stop _ ih => intro k' h'; simp only [cExit] at h'; exact ih h'

theorem AW.exit {id : Nat} {k' : List CItem} (he : cExit id k = some k') (h : AW C k' st) : AW C (.code (.exit id) :: k) st := by
  intro H F β a w b cs todo hm hr hn
  cases hm with
  | code hc hk =>
    rename_i c' k''
    cases c' <;> simp [chkC] at hc
    subst hc
    obtain ⟨t, h1, h2⟩ := hk.exit he
    exact .steps (.one (step_exit h1)) (h H F β a w b cs _ h2 hr hn)

theorem opsM_all {P : Program} {N : Nat} {os : Array Oper} : ∀ (l : List COp) (l' : List Oper) (n : Nat), chkOps P N os l l' = true → (∀ i o, l'[i]? = some o → os[n + i]? = some o) →
    OpsM P N os l (List.range' n l'.length)
  | [], [], _, _, _ => trivial
  | [], _ :: _, _, h, _ => by simp [chkOps] at h
  | _ :: _, [], _, h, _ => by simp [chkOps] at h
  | c :: l, o :: l', n, h, hg => by
    simp only [chkOps, Bool.and_eq_true] at h
    simp only [List.length_cons, List.range'_succ, OpsM]
    refine ⟨⟨o, by simpa using hg 0 o rfl, h.1⟩, opsM_all l l' (n + 1) h.2 fun i o' hi => ?_⟩
    have := hg (i + 1) o' (by simpa using hi)
    rw [show n + 1 + i = n + (i + 1) by omega]; exact this

theorem AW.reg {keep : List Nat} {ops : List COp} (h : AW C (.ops keep ops :: k) st) : AW C (.code (.reg keep ops) :: k) st := by
  intro H F β a w b cs todo hm hr hn
  cases hm with
  | code hc hk =>
    rename_i c' k'
    cases c' <;> try (simp [chkC] at hc; done)
    rename_i id os dr
    cases dr <;> simp [chkC] at hc
    refine .steps (.one step_region) (h H F β a w b cs _ (.ops ?_ hk) hr hn)
    have := opsM_all ops os.toList 0 hc (fun i o hi => by simpa using hi)
    rw [List.range_eq_range']
    simpa using this

theorem AW.ops_end {keep : List Nat} (h : AW C k ⟨keep.map fun n => (n, look st.env n), st.mem⟩) : AW C (.ops keep [] :: k) st := by
  intro H F β a w b cs todo hm hr hn
  cases hm with
  | ops ho hk =>
    rename_i os idx k'
    cases idx with
    | cons _ _ => simp [OpsM] at ho
    | nil =>
      refine .steps (.one step_region_end) (h H F β a w b cs _ hk ⟨hr.defers, hr.size, fun n => ?_, hr.sat⟩ hn)
      have : ∀ l : List Nat, look (l.map fun n => (n, look st.env n)) n = look st.env n ∨ look (l.map fun n => (n, look st.env n)) n = .junk := by
        intro l
        induction l with
        | nil => exact .inr rfl
        | cons x l ih =>
          simp only [List.map_cons, look]
          split
          · rename_i e; subst e; exact .inl rfl
          · exact ih
      rcases this keep with e | e
      · rw [e]; exact hr.env n
      · rw [e]; exact .junk

def put (env : List (Nat × AV)) (d : Option Nat) (v : AV) : List (Nat × AV) :=
  match d with
  | some d => (d, v) :: env
  | none => env
@[simp] theorem put_some {env : List (Nat × AV)} {d : Nat} {v : AV} : put env (some d) v = (d, v) :: env := rfl
@[simp] theorem put_none {env : List (Nat × AV)} {v : AV} : put env none v = env := rfl

theorem rel_putd {N : Nat} {a : Act} {w w' : World} {v : AV} {x : Value} {m' : List Ent} {d : Option Nat}
    (h : Rel H F β N st a w) (hH : HExt H H') (hβ : BExt β β') (hd : (match d with | some d => decide (d < N) | none => true) = true) (hv : Rep H' β' v x) (hs : Sat H' F β' m' w') :
    Rel H' F β' N ⟨put st.env d v, m'⟩ (a.put d x) w' := by
  cases d with
  | none => exact h.put_none hH hβ hs
  | some d => exact h.put hH hβ (by simpa using hd) hv hs

theorem wanted_none {o : Oper} {f : Nat → Option Bool} (h : o.guard = none) : Region.wanted o f = true := by simp [Region.wanted, h]

/-- An operation that is carried out, whatever its guard. -/
theorem op_run {kk : K} {c : COp} {o : Oper} {r : Ev} {a : Act} {w : World} {os : Array Oper} {j : Nat} {idx : List Nat} {k' : List Item} (hj : os[j]? = some o) (hc : chkOp C.P C.fn.ntmps os c o = true)
    (hw : Region.wanted o (yielded os a.tmps) = true) (hkk : c.k = kk) (he : evK kk st.env st.mem = some r) (hs : r.1) (hr : Rel H F β C.fn.ntmps st a w) :
    ∃ a1 w1 H1 β1, Steps C.P (lone (b.at a (.inRegion os (j :: idx) :: k')) cs w) (lone (b.at a1 (.inRegion os idx :: k')) cs w1) ∧ HX F H H1 ∧ BExt β β1 ∧
      Rel H1 F β1 C.fn.ntmps ⟨put st.env c.d r.2.1, r.2.2⟩ a1 w1 := by
  unfold chkOp at hc
  simp only [Bool.and_eq_true, beq_iff_eq] at hc
  obtain ⟨⟨⟨h1, h2⟩, h3⟩, h4⟩ := hc
  subst hkk
  obtain ⟨x, w', H', β', hrun, g1, g2, g3, g4⟩ := evK_sound hr h4 he hs
  refine ⟨a.put o.dst x, w', H', β', ?_, g1, g2, ?_⟩
  · rcases hrun with hrun | ⟨hrun, rfl⟩
    · exact .one (step_op_value hj hw hrun)
    · exact .one (step_op_nothing hj hw hrun)
  · rw [← h1]
    exact rel_putd hr g1.1 g2 h2 g3 g4

theorem evK_len {kk : K} {env : List (Nat × AV)} {mem : List Ent} {r : Ev} (he : evK kk env mem = some r) : mem.length ≤ r.2.2.length := by
  unfold evK at he
  have happ : ∀ {es x ys r}, evApp mem es x ys = some r → mem.length ≤ r.2.2.length := by
    intro es x ys r h
    unfold evApp at h
    split at h
    · cases h; simp
    · split at h
      · cases h; simp
      · cases h
    · cases h
  (repeat' split at he) <;> first
    | (cases he; done)
    | (simp only [Option.some.injEq] at he; subst he; simp; done)
    | (cases he; simp; done)
    | exact happ he

theorem AW.op {d : Option Nat} {kk : K} {keep : List Nat} {l : List COp} {r : Ev} (he : evK kk st.env st.mem = some r) (hs : r.1) (h : AW C (.ops keep l :: k) ⟨put st.env d r.2.1, r.2.2⟩) :
    AW C (.ops keep (.mk d none kk :: l) :: k) st := by
  intro H F β a w b cs todo hm hr hn
  cases hm with
  | ops ho hk =>
    rename_i os idx k'
    cases idx with
    | nil => simp [OpsM] at ho
    | cons j idx =>
      obtain ⟨⟨o, hj, hc⟩, ho⟩ := ho
      have hg : o.guard = none := by
        have := hc
        unfold chkOp at this
        simp only [Bool.and_eq_true] at this
        have h3 := this.1.2
        cases hog : o.guard with
        | none => rfl
        | some _ => simp [chkG, hog] at h3
      obtain ⟨a1, w1, H1, β1, e1, e2, e3, e4⟩ := op_run (b := b) (cs := cs) (idx := idx) (k' := k') hj hc (wanted_none hg) rfl he hs hr
      refine .steps e1 (.ext e2 (e3.eq0 (by rw [hr.sat.hl]; exact hn)) (h H1 F β1 a1 w1 b cs _ (.ops ho hk) e4 (Nat.le_trans hn (evK_len he))))

theorem guard_wanted {P : Program} {N : Nat} {os : Array Oper} {d : Option Nat} {kk : K} {o : Oper} {t : Nat} {bb g : Bool} {a : Act} {w : World} (hc : chkOp P N os (.mk d (some (t, bb)) kk) o = true)
    (hr : Rel H F β N st a w) (ht : look st.env t = .bool g) : Region.wanted o (yielded os a.tmps) = (g == bb) := by
  unfold chkOp at hc
  simp only [Bool.and_eq_true, beq_iff_eq] at hc
  obtain ⟨⟨⟨c1, c2⟩, c3⟩, c4⟩ := hc
  cases hog : o.guard with
  | none => simp [chkG, hog] at c3
  | some gw =>
    obtain ⟨jj, b'⟩ := gw
    simp only [COp.g, hog, chkG, Bool.and_eq_true, beq_iff_eq] at c3
    obtain ⟨rfl, c3⟩ := c3
    have hv := hr.env t
    rw [ht] at hv
    have ev := rep_bool hv
    simp only [Region.wanted, hog, yielded, c3]
    have hy : a.tmps[t]? = some (.bool g) := by
      cases hx : a.tmps[t]? with
      | none => simp [hx, undef] at ev
      | some y => simp [hx] at ev; rw [ev]
    simp only [Option.bind_some, hy]
    cases g <;> cases bb <;> rfl

/-- A guarded operation. -/
theorem AW.opg {d : Option Nat} {kk : K} {keep : List Nat} {l : List COp} {t : Nat} {bb g : Bool} (ht : look st.env t = .bool g)
    (h1 : (g == bb) = true → ∃ r, evK kk st.env st.mem = some r ∧ r.1 ∧ AW C (.ops keep l :: k) ⟨put st.env d r.2.1, r.2.2⟩)
    (h2 : (g == bb) = false → AW C (.ops keep l :: k) ⟨put st.env d .junk, st.mem⟩) : AW C (.ops keep (.mk d (some (t, bb)) kk :: l) :: k) st := by
  intro H F β a w b cs todo hm hr hn
  cases hm with
  | ops ho hk =>
    rename_i os idx k'
    cases idx with
    | nil => simp [OpsM] at ho
    | cons j idx =>
      obtain ⟨⟨o, hj, hc⟩, ho⟩ := ho
      have hc' := hc
      unfold chkOp at hc'
      simp only [Bool.and_eq_true, beq_iff_eq] at hc'
      obtain ⟨⟨⟨c1, c2⟩, c3⟩, c4⟩ := hc'
      have hwant := guard_wanted hc hr ht
      cases hgb : (g == bb) with
      | true =>
        obtain ⟨r, he, hs, h⟩ := h1 hgb
        obtain ⟨a1, w1, H1, β1, e1, e2, e3, e4⟩ := op_run (b := b) (cs := cs) (idx := idx) (k' := k') hj hc (hwant.trans hgb) rfl he hs hr
        refine .steps e1 (.ext e2 (e3.eq0 (by rw [hr.sat.hl]; exact hn)) (h H1 F β1 a1 w1 b cs _ (.ops ho hk) e4 (Nat.le_trans hn (evK_len he))))
      | false =>
        have hs := step_op_off (P := C.P) (b := b) (a := a) (k := k') (cs := cs) (w := w) (rest := idx) hj (hwant.trans hgb)
        refine .steps (.one hs) (h2 hgb H F β _ w b cs _ (.ops ho hk) ?_ hn)
        rw [← c1]
        exact rel_putd hr (.refl _) (.refl _) c2 .junk hr.sat

end
end Go.Fw
