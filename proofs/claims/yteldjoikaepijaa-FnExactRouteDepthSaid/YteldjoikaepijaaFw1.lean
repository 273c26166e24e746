/- The abstract values of the framework, what they stand for in the model's memory, and the first lemmas. -/
import Derived.Calls
import Derived.KernelRfl
namespace Go.Fw
open Go

def BIG : Nat := 9223372036854775807

/-- Abstract values. 'sl', 'ip': into memory that never changes; 'ms', 'mp': into a block that is owned; 'opt b v': v, if b. -/
inductive AV where
  | junk
  | int (k : IntKind) (n : Int)
  | bool (b : Bool)
  | str (s : List UInt8)
  | agg (cs : List AV)
  | tup (vs : List AV)
  | e0
  | sl (es : Nat) (rows : List (List AV))
  | ip (cs : List AV)
  | ms (i es off len : Nat)
  | mp (i r off : Nat)
  | fn (f : FuncId) (caps : List AV)
  | mapr (i : Nat)
  | nilp
  | nilf
  | nilm
  | opt (b : Bool) (v : AV)

abbrev Hp := Nat → Option Obj
/-- Of each owned block: its number, the cells of a row, how many rows it has room for; none: nothing lies behind it. -/
abbrev Bt := List (Option (Nat × Nat × Nat))

def AV.isCell : AV → Bool
  | .agg _ | .tup _ | .junk | .opt _ _ => false
  | .int _ _ | .bool _ | .str _ | .e0 | .sl _ _ | .ip _ | .ms _ _ _ _ | .mp _ _ _ | .fn _ _ | .mapr _ | .nilp | .nilf | .nilm => true
@[simp] theorem isCell_int {k n} : (AV.int k n).isCell = true := rfl
@[simp] theorem isCell_bool {b} : (AV.bool b).isCell = true := rfl
@[simp] theorem isCell_str {s} : (AV.str s).isCell = true := rfl
@[simp] theorem isCell_e0 : AV.e0.isCell = true := rfl
@[simp] theorem isCell_sl {s r} : (AV.sl s r).isCell = true := rfl
@[simp] theorem isCell_ip {s} : (AV.ip s).isCell = true := rfl
@[simp] theorem isCell_ms {a b c d} : (AV.ms a b c d).isCell = true := rfl
@[simp] theorem isCell_mp {a b c} : (AV.mp a b c).isCell = true := rfl
@[simp] theorem isCell_fn {f c} : (AV.fn f c).isCell = true := rfl
@[simp] theorem isCell_mapr {f} : (AV.mapr f).isCell = true := rfl
@[simp] theorem isCell_nilp : AV.nilp.isCell = true := rfl
@[simp] theorem isCell_nilf : AV.nilf.isCell = true := rfl
@[simp] theorem isCell_nilm : AV.nilm.isCell = true := rfl
@[simp] theorem isCell_agg {s} : (AV.agg s).isCell = false := rfl
@[simp] theorem isCell_tup {s} : (AV.tup s).isCell = false := rfl
@[simp] theorem isCell_junk : AV.junk.isCell = false := rfl
@[simp] theorem isCell_opt {b v} : (AV.opt b v).isCell = false := rfl

mutual
def AV.pure : AV → Bool
  | .ms _ _ _ _ | .mp _ _ _ | .mapr _ => false
  | .agg cs | .tup cs | .fn _ cs => AV.pureL cs
  | .opt _ v => v.pure
  | .junk | .int _ _ | .bool _ | .str _ | .e0 | .sl _ _ | .ip _ | .nilp | .nilf | .nilm => true
def AV.pureL : List AV → Bool
  | [] => true
  | c :: cs => c.pure && AV.pureL cs
end

@[simp] theorem pure_int {k n} : (AV.int k n).pure = true := by simp [AV.pure]
@[simp] theorem pure_bool {b} : (AV.bool b).pure = true := by simp [AV.pure]
@[simp] theorem pure_str {s} : (AV.str s).pure = true := by simp [AV.pure]
@[simp] theorem pure_e0 : AV.e0.pure = true := by simp [AV.pure]
@[simp] theorem pure_sl {s r} : (AV.sl s r).pure = true := by simp [AV.pure]
@[simp] theorem pure_ip {s} : (AV.ip s).pure = true := by simp [AV.pure]
@[simp] theorem pure_ms {a b c d} : (AV.ms a b c d).pure = false := by simp [AV.pure]
@[simp] theorem pure_mp {a b c} : (AV.mp a b c).pure = false := by simp [AV.pure]
@[simp] theorem pure_fn {f c} : (AV.fn f c).pure = AV.pureL c := by simp [AV.pure]
@[simp] theorem pure_mapr {f} : (AV.mapr f).pure = false := by simp [AV.pure]
@[simp] theorem pure_nilp : AV.nilp.pure = true := by simp [AV.pure]
@[simp] theorem pure_nilf : AV.nilf.pure = true := by simp [AV.pure]
@[simp] theorem pure_nilm : AV.nilm.pure = true := by simp [AV.pure]
@[simp] theorem pure_agg {s} : (AV.agg s).pure = AV.pureL s := by simp [AV.pure]
@[simp] theorem pure_tup {s} : (AV.tup s).pure = AV.pureL s := by simp [AV.pure]
@[simp] theorem pure_junk : AV.junk.pure = true := by simp [AV.pure]
@[simp] theorem pure_opt {b v} : (AV.opt b v).pure = v.pure := by simp [AV.pure]
@[simp] theorem pureL_nil : AV.pureL [] = true := by simp [AV.pureL]
@[simp] theorem pureL_cons {c cs} : AV.pureL (c :: cs) = (c.pure && AV.pureL cs) := by simp [AV.pureL]

theorem AV.pureL_iff : ∀ (l : List AV), AV.pureL l = true ↔ ∀ c ∈ l, c.pure = true
  | [] => by simp
  | c :: cs => by simp [AV.pureL_iff cs]

inductive Rep (H : Hp) : Bt → AV → Value → Prop
  | junk {β v} : Rep H β .junk v
  | int {β k n} (h : k.min ≤ n ∧ n ≤ k.max) : Rep H β (.int k n) (.int k n)
  | bool {β b} : Rep H β (.bool b) (.bool b)
  | str {β s} (h : s.length ≤ BIG) : Rep H β (.str s) (.string ⟨s.toArray⟩)
  | agg {β cs vs} (hl : vs.size = cs.length) (hc : ∀ c ∈ cs, AV.isCell c = true)
      (h : ∀ (i : Nat) c v, cs[i]? = some c → vs[i]? = some v → Rep H β c v) : Rep H β (.agg cs) (.agg vs)
  | tup {β cs vs} (hl : vs.size = cs.length)
      (h : ∀ (i : Nat) c v, cs[i]? = some c → vs[i]? = some v → Rep H β c v) : Rep H β (.tup cs) (.tuple vs)
  | e0 {β a} : Rep H β .e0 (.slice a 0 0)
  | sl {β es rows a len cap} (b o : Nat) (cells : Array Value) (f : Nat → Nat → Value)
      (hlen : len = rows.length) (hcap : len ≤ cap) (hbig : len ≤ BIG)
      (hes : ∀ r ∈ rows, List.length r = es)
      (hblk : rows ≠ [] → a = some ⟨b, o, none⟩ ∧ ∃ elem fz, H b = some (.cells cells elem fz))
      (hc : ∀ i j, i < rows.length → j < es → cells[o + i * es + j]? = some (f i j))
      (hcell : ∀ r ∈ rows, ∀ c ∈ r, AV.isCell c = true)
      (h : ∀ (i : Nat) (r : List AV) (j : Nat) (c : AV), rows[i]? = some r → r[j]? = some c → Rep H [] c (f i j)) :
      Rep H β (.sl es rows) (.slice a len cap)
  | ip {β cs b o cells elem fz} (f : Nat → Value) (hH : H b = some (.cells cells elem fz))
      (hc : ∀ j, j < cs.length → cells[o + j]? = some (f j))
      (hcell : ∀ c ∈ cs, AV.isCell c = true)
      (h : ∀ (j : Nat) c, cs[j]? = some c → Rep H [] c (f j)) : Rep H β (.ip cs) (.pointer (some ⟨b, o, none⟩))
  | ms {β i es off len b capT cap} (hβ : β[i]? = some (some (b, es, capT))) (h : off + cap ≤ capT) (hlen : len ≤ cap) (hbig : len ≤ BIG) :
      Rep H β (.ms i es off len) (.slice (some ⟨b, off * es, none⟩) len cap)
  | ms0 {β i es off a x} (hβ : β[i]? = some x) : Rep H β (.ms i es off 0) (.slice a 0 0)
  | mp {β i r off b es capT} (hβ : β[i]? = some (some (b, es, capT))) : Rep H β (.mp i r off) (.pointer (some ⟨b, r * es + off, none⟩))
  | fn {β f cs vs} (hl : vs.size = cs.length) (h : ∀ (i : Nat) c v, cs[i]? = some c → vs[i]? = some v → Rep H β c v) :
      Rep H β (.fn f cs) (.func (.func f) #[] vs)
  | mapr {β i b es capT} (hβ : β[i]? = some (some (b, es, capT))) : Rep H β (.mapr i) (.map (some b))
  | nilp {β} : Rep H β .nilp (.pointer none)
  | nilf {β} : Rep H β .nilf .nilFunc
  | nilm {β} : Rep H β .nilm (.map none)
  | opt {β b v x} (h : b = true → Rep H β v x) : Rep H β (.opt b v) x

def HExt (H H' : Hp) : Prop := ∀ b o, H b = some o → H' b = some o
def BExt (β β' : Bt) : Prop := ∀ (i : Nat) x, β[i]? = some x → β'[i]? = some x

theorem HExt.refl (H : Hp) : HExt H H := fun _ _ h => h
theorem BExt.refl (β : Bt) : BExt β β := fun _ _ h => h
theorem HExt.trans {A B C : Hp} (h : HExt A B) (h' : HExt B C) : HExt A C := fun b o x => h' b o (h b o x)
theorem BExt.trans {A B C : Bt} (h : BExt A B) (h' : BExt B C) : BExt A C := fun b o x => h' b o (h b o x)
theorem BExt.append (β γ : Bt) : BExt β (β ++ γ) := by
  intro i x h
  have := (List.getElem?_eq_some_iff.1 h).1
  rw [List.getElem?_append_left this]; exact h

theorem Rep.mono {H H' : Hp} (hH : HExt H H') {β : Bt} {v : AV} {x : Value} (r : Rep H β v x) : ∀ {β' : Bt}, BExt β β' → Rep H' β' v x := by
  induction r with
  | junk => intros; exact .junk
  | int h => intros; exact .int h
  | bool => intros; exact .bool
  | str h => intros; exact .str h
  | agg hl hc _ ih => intro β' hb; exact .agg hl hc fun i c v h1 h2 => ih i c v h1 h2 hb
  | tup hl _ ih => intro β' hb; exact .tup hl fun i c v h1 h2 => ih i c v h1 h2 hb
  | e0 => intros; exact .e0
  | sl b o cells f hlen hcap hbig hes hblk hc hcell _ ih =>
    intro β' hb
    exact .sl b o cells f hlen hcap hbig hes (fun hne => let ⟨h1, e, z, h2⟩ := hblk hne; ⟨h1, e, z, hH _ _ h2⟩) hc hcell fun i r j c h1 h2 => ih i r j c h1 h2 (BExt.refl _)
  | ip f hh hc hcell _ ih => intro β' hb; exact .ip f (hH _ _ hh) hc hcell fun j c h1 => ih j c h1 (BExt.refl _)
  | ms hβ h hlen hbig => intro β' hb; exact .ms (hb _ _ hβ) h hlen hbig
  | ms0 hβ => intro β' hb; exact .ms0 (hb _ _ hβ)
  | mp hβ => intro β' hb; exact .mp (hb _ _ hβ)
  | fn hl _ ih => intro β' hb; exact .fn hl fun i c v h1 h2 => ih i c v h1 h2 hb
  | mapr hβ => intro β' hb; exact .mapr (hb _ _ hβ)
  | nilp => intros; exact .nilp
  | nilf => intros; exact .nilf
  | nilm => intros; exact .nilm
  | opt _ ih => intro β' hb; exact .opt fun h => ih h hb

theorem Rep.pure {H : Hp} {β : Bt} {v : AV} {x : Value} (r : Rep H β v x) (hp : v.pure = true) (β' : Bt) : Rep H β' v x := by
  induction r with
  | junk => exact .junk
  | int h => exact .int h
  | bool => exact .bool
  | str h => exact .str h
  | agg hl hc _ ih => exact .agg hl hc fun i c v h1 h2 => ih i c v h1 h2 ((AV.pureL_iff _).1 (by simpa using hp) c (List.mem_of_getElem? h1))
  | tup hl _ ih => exact .tup hl fun i c v h1 h2 => ih i c v h1 h2 ((AV.pureL_iff _).1 (by simpa using hp) c (List.mem_of_getElem? h1))
  | e0 => exact .e0
  | sl b o cells f hlen hcap hbig hes hblk hc hcell h _ => exact .sl b o cells f hlen hcap hbig hes hblk hc hcell h
  | ip f hh hc hcell h _ => exact .ip f hh hc hcell h
  | ms => simp at hp
  | ms0 => simp at hp
  | mp => simp at hp
  | fn hl _ ih => exact .fn hl fun i c v h1 h2 => ih i c v h1 h2 ((AV.pureL_iff _).1 (by simpa using hp) c (List.mem_of_getElem? h1))
  | mapr => simp at hp
  | nilp => exact .nilp
  | nilf => exact .nilf
  | nilm => exact .nilm
  | opt _ ih => exact .opt fun h => ih h (by simpa using hp)

/-- What an owned block holds. -/
inductive Ent where
  | dead
  | arr (es : Nat) (rows : List (List AV))
  | mp (es : List (AV × AV))

def Ent.live : Ent → Bool
  | .dead => false
  | .arr _ _ => true
  | .mp _ => true
@[simp] theorem live_dead : Ent.dead.live = false := rfl
@[simp] theorem live_arr {e r} : (Ent.arr e r).live = true := rfl
@[simp] theorem live_mp {e} : (Ent.mp e).live = true := rfl

def EntOk (H : Hp) (β : Bt) (w : World) : Ent → Option (Nat × Nat × Nat) → Prop
  | .dead, _ => True
  | .arr _ rows, none => rows = []
  | .arr es rows, some (b, es', cap) => es' = es ∧ ∃ cells elem, w.heap[b]? = some (.cells cells elem (0, 0)) ∧ cells.size = cap * es ∧ rows.length ≤ cap ∧
      (∀ r ∈ rows, r.length = es) ∧ (∀ r ∈ rows, ∀ c ∈ r, c.isCell = true) ∧
      ∀ (i : Nat) (r : List AV) (j : Nat) (c : AV), rows[i]? = some r → r[j]? = some c → ∃ v, cells[i * es + j]? = some v ∧ Rep H β c v
  | .mp _, none => False
  | .mp es, some (b, _, _) => ∃ ents clock, w.heap[b]? = some (.map ents clock) ∧ ents.size = es.length ∧
      ∀ (i : Nat) k v e, es[i]? = some (k, v) → ents[i]? = some e → Rep H β k e.key ∧ Rep H β v e.val

/-- What is held fixed around a call: blocks, and the world that the streams stay like. -/
structure Fr where
  h : Hp
  w0 : World
instance : CoeFun Fr (fun _ => Nat → Option Obj) := ⟨Fr.h⟩

structure Same (F : Fr) (w : World) : Prop where
  os : w.os = F.w0.os
  tape : w.tape = F.w0.tape
  output : w.output = F.w0.output
  size : F.w0.heap.size ≤ w.heap.size

structure Sat (H : Hp) (F : Fr) (β : Bt) (mem : List Ent) (w : World) : Prop where
  hH : ∀ b o, H b = some o → w.heap[b]? = some o
  hF : ∀ b o, F b = some o → w.heap[b]? = some o
  sm : Same F w
  hl : β.length = mem.length
  ent : ∀ (i : Nat) e x, mem[i]? = some e → β[i]? = some x → EntOk H β w e x
  apart : ∀ (i : Nat) e x, mem[i]? = some e → e.live = true → β[i]? = some (some x) → H x.1 = none ∧ F x.1 = none
  inj : ∀ (i j : Nat) e e' x y, mem[i]? = some e → e.live = true → mem[j]? = some e' → e'.live = true → β[i]? = some (some x) → β[j]? = some (some y) → x.1 = y.1 → i = j

@[simp] def look : List (Nat × AV) → Nat → AV
  | [], _ => .junk
  | (m, v) :: r, n => if m = n then v else look r n

structure St where
  env : List (Nat × AV)
  mem : List Ent

structure Rel (H : Hp) (F : Fr) (β : Bt) (N : Nat) (st : St) (a : Act) (w : World) : Prop where
  defers : a.defers = []
  size : a.tmps.size = N
  env : ∀ n, Rep H β (look st.env n) (a.tmps.getD n undef)
  sat : Sat H F β st.mem w

theorem Rel.put {H H' : Hp} {F : Fr} {β β' : Bt} {N : Nat} {st : St} {a : Act} {w w' : World} {v : AV} {x : Value} {m' : List Ent} {d : Nat}
    (h : Rel H F β N st a w) (hH : HExt H H') (hβ : BExt β β') (hd : d < N) (hv : Rep H' β' v x) (hs : Sat H' F β' m' w') :
    Rel H' F β' N ⟨(d, v) :: st.env, m'⟩ (a.put (some d) x) w' := by
  refine ⟨h.defers, by simp [Act.put, h.size], fun n => ?_, hs⟩
  simp only [look, Act.put]
  by_cases e : d = n
  · subst e; simp [h.size, hd]; exact hv
  · simp only [e, if_false]
    have := (h.env n).mono hH hβ
    simpa [Array.getElem?_setIfInBounds_ne e] using this

theorem Rel.put_none {H H' : Hp} {F : Fr} {β β' : Bt} {N : Nat} {st : St} {a : Act} {w w' : World} {x : Value} {m' : List Ent}
    (h : Rel H F β N st a w) (hH : HExt H H') (hβ : BExt β β') (hs : Sat H' F β' m' w') :
    Rel H' F β' N ⟨st.env, m'⟩ (a.put none x) w' :=
  ⟨h.defers, h.size, fun n => (h.env n).mono hH hβ, hs⟩

end Go.Fw
