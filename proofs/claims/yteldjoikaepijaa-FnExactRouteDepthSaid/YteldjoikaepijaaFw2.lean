/- One operation of the machine at a time; the compact operations, and that they stand for the model's. -/
import Derived.Test.YteldjoikaepijaaFw1
import Derived.Laws.Sem
import Derived.Laws.World
import Derived.Laws.Cells
import Derived.Laws.Rows
import Derived.Laws.Append
import Derived.Laws.Slices
import Derived.Laws.Tables
namespace Go.Fw
open Go

section steps
variable {P : Program} {b : Frame} {a : Act} {k : List Item} {cs : List Frame} {w w' : World} {ops : Array Oper} {i : Nat} {rest : List Nat} {o : Oper}

theorem step_op_value {x : Value} (ho : ops[i]? = some o) (hw : Region.wanted o (yielded ops a.tmps) = true)
    (hr : (execOp a.eval o).run P w = .ok (.value x) w') :
    step P (lone (b.at a (.inRegion ops (i :: rest) :: k)) cs w) = .next (lone (b.at (a.put o.dst x) (.inRegion ops rest :: k)) cs w') := by
  have hg := stepG_op (P := P) (b := b) (k := k) (cs := cs) (w := w) (rest := rest) ho hw
  have hf := Frame.finish_at b a ops i rest k x
  rw [ho] at hf
  refine step_lone_go ?_
  rw [hg]
  simp only [stepG.apply, Sem.runT_eq, hr, GStep.bare_after]
  exact congrArg (fun fr => GStep.go { frame := fr, callers := cs, status := .running, dying := none } w') hf

theorem step_op_nothing (ho : ops[i]? = some o) (hw : Region.wanted o (yielded ops a.tmps) = true)
    (hr : (execOp a.eval o).run P w = .ok .skip w') :
    step P (lone (b.at a (.inRegion ops (i :: rest) :: k)) cs w) = .next (lone (b.at (a.put o.dst undef) (.inRegion ops rest :: k)) cs w') := by
  have hg := stepG_op (P := P) (b := b) (k := k) (cs := cs) (w := w) (rest := rest) ho hw
  have hf := Frame.finish_at b a ops i rest k undef
  rw [ho] at hf
  refine step_lone_go ?_
  rw [hg]
  simp only [stepG.apply, Sem.runT_eq, hr, GStep.bare_after]
  exact congrArg (fun fr => GStep.go { frame := fr, callers := cs, status := .running, dying := none } w') hf

theorem step_op_off (ho : ops[i]? = some o) (hw : Region.wanted o (yielded ops a.tmps) = false) :
    step P (lone (b.at a (.inRegion ops (i :: rest) :: k)) cs w) = .next (lone (b.at (a.put o.dst undef) (.inRegion ops rest :: k)) cs w) := by
  have hs := step_op_skip (P := P) (b := b) (a := a) (k := k) (cs := cs) (w := w) (ops := ops) (i := i) (rest := rest) (by simp [ho, hw])
  simpa [ho] using hs

/-- A call: the callee's contract carries the caller on. -/
theorem steps_op_enter {f : FuncId} {args : Array Value} {R : Ending → World → Prop} (ho : ops[i]? = some o) (hw : Region.wanted o (yielded ops a.tmps) = true)
    (hr : (execOp a.eval o).run P w = .ok (.enter f args) w') (hc : Calls P f args w' R) (hR : ∀ e w'', R e w'' → ∃ v, e = .returned v) :
    ∃ v w'', R (.returned v) w'' ∧ Steps P (lone (b.at a (.inRegion ops (i :: rest) :: k)) cs w) (lone (b.at (a.put o.dst v) (.inRegion ops rest :: k)) cs w'') := by
  obtain ⟨e, w'', fr, h, hsteps, _, hleave⟩ := hc (b.at a (.inRegion ops (i :: rest) :: k) :: cs)
  obtain ⟨v, rfl⟩ := hR _ _ h
  have hg := stepG_op (P := P) (b := b) (k := k) (cs := cs) (w := w) (rest := rest) ho hw
  have henter : step P (lone (b.at a (.inRegion ops (i :: rest) :: k)) cs w) =
      .next (lone (Frame.enter P f args .normal) (b.at a (.inRegion ops (i :: rest) :: k) :: cs) w') :=
    step_lone_go (by rw [hg]; simp [stepG.apply, hr, Frame.at])
  have hf := Frame.finish_at b a ops i rest k v
  rw [ho] at hf
  refine ⟨v, w'', h, .head henter (hsteps.trans (.one ?_))⟩
  have := step_leave_returned (P := P) (c := b.at a (.inRegion ops (i :: rest) :: k)) (cs := cs) hleave
  rw [hf] at this
  exact this
end steps

/-- Operands. -/
inductive Ar where
  | t (n : Nat)
  | c (v : AV)

def ar (env : List (Nat × AV)) : Ar → AV
  | .t n => look env n
  | .c v => v
@[simp] theorem ar_t {env : List (Nat × AV)} {n : Nat} : ar env (.t n) = look env n := rfl
@[simp] theorem ar_c {env : List (Nat × AV)} {v : AV} : ar env (.c v) = v := rfl

mutual
def constOk : AV → Value → Bool
  | .int k n, .int k' n' => k == k' && n == n' && decide (k.min ≤ n ∧ n ≤ k.max)
  | .bool b, .bool b' => b == b'
  | .str s, .string t => s == t.data.toList && decide (s.length ≤ BIG)
  | .e0, .slice _ 0 0 => true
  | .sl _ [], .slice _ 0 0 => true
  | .nilp, .pointer none => true
  | .nilf, .nilFunc => true
  | .nilm, .map none => true
  | .agg cs, .agg vs => constOkL cs vs.toList
  | .fn f [], .func (.func g) fst vs => f == g && fst.size == 0 && vs.size == 0
  | _, _ => false
def constOkL : List AV → List Value → Bool
  | [], [] => true
  | c :: cs, v :: vs => c.isCell && constOk c v && constOkL cs vs
  | _, _ => false
end

mutual
theorem constOk_rep (H : Hp) (β : Bt) : ∀ (c : AV) (v : Value), constOk c v = true → Rep H β c v
  | .int k n, .int k' n', h => by
    simp only [constOk, Bool.and_eq_true, beq_iff_eq, decide_eq_true_eq] at h
    obtain ⟨⟨rfl, rfl⟩, h⟩ := h; exact .int h
  | .bool b, .bool b', h => by simp only [constOk, beq_iff_eq] at h; subst h; exact .bool
  | .str s, .string t, h => by
    simp only [constOk, Bool.and_eq_true, beq_iff_eq, decide_eq_true_eq] at h
    obtain ⟨rfl, h⟩ := h
    have : (.string t : Value) = .string ⟨t.data.toList.toArray⟩ := by cases t; simp
    rw [this]; exact .str h
  | .e0, .slice a 0 0, _ => .e0
  | .e0, .slice a (_+1) _, h => by simp [constOk] at h
  | .e0, .slice a 0 (_+1), h => by simp [constOk] at h
  | .sl es [], .slice a 0 0, _ => .sl 0 0 #[] (fun _ _ => undef) rfl (Nat.le_refl _) (Nat.zero_le _) (by simp) (by simp) (by simp) (by simp) (by simp)
  | .sl es [], .slice a (_+1) _, h => by simp [constOk] at h
  | .sl es [], .slice a 0 (_+1), h => by simp [constOk] at h
  | .nilp, .pointer none, _ => .nilp
  | .nilp, .pointer (some _), h => by simp [constOk] at h
  | .nilf, .nilFunc, _ => .nilf
  | .nilm, .map none, _ => .nilm
  | .nilm, .map (some _), h => by simp [constOk] at h
  | .agg cs, .agg vs, h => by
    simp only [constOk] at h
    obtain ⟨h1, h2, h3⟩ := constOkL_rep H β cs vs.toList h
    exact .agg (by simpa using h1.symm) h2 fun i c v hc hv => h3 i c v hc (by simpa using hv)
  | .fn f [], .func (.func g) fst vs, h => by
    simp only [constOk, Bool.and_eq_true, beq_iff_eq] at h
    obtain ⟨⟨rfl, h1⟩, h2⟩ := h
    obtain rfl : fst = #[] := Array.eq_empty_of_size_eq_zero h1
    exact .fn (by simpa using h2) (by simp)
  | .fn f (_ :: _), v, h => by cases v <;> simp [constOk] at h
  | .sl _ (_ :: _), v, h | .junk, v, h | .tup _, v, h | .ip _, v, h | .ms .., v, h | .mp .., v, h | .mapr _, v, h | .opt _ _, v, h => by cases v <;> simp [constOk] at h
  | .int k n, .bool _, h | .int k n, .float .., h | .int k n, .complex .., h | .int k n, .string _, h | .int k n, .pointer _, h | .int k n, .slice .., h
  | .int k n, .map _, h | .int k n, .chan _, h | .int k n, .func .., h | .int k n, .nilFunc, h | .int k n, .iface .., h | .int k n, .nilIface, h
  | .int k n, .agg _, h | .int k n, .tuple _, h => by simp [constOk] at h
  | .bool k, .int .., h | .bool k, .float .., h | .bool k, .complex .., h | .bool k, .string _, h | .bool k, .pointer _, h | .bool k, .slice .., h
  | .bool k, .map _, h | .bool k, .chan _, h | .bool k, .func .., h | .bool k, .nilFunc, h | .bool k, .iface .., h | .bool k, .nilIface, h
  | .bool k, .agg _, h | .bool k, .tuple _, h => by simp [constOk] at h
  | .str k, .int .., h | .str k, .float .., h | .str k, .complex .., h | .str k, .bool _, h | .str k, .pointer _, h | .str k, .slice .., h
  | .str k, .map _, h | .str k, .chan _, h | .str k, .func .., h | .str k, .nilFunc, h | .str k, .iface .., h | .str k, .nilIface, h
  | .str k, .agg _, h | .str k, .tuple _, h => by simp [constOk] at h
  | .sl _ [], .int .., h | .sl _ [], .float .., h | .sl _ [], .complex .., h | .sl _ [], .bool _, h | .sl _ [], .pointer _, h | .sl _ [], .string .., h
  | .sl _ [], .map _, h | .sl _ [], .chan _, h | .sl _ [], .func .., h | .sl _ [], .nilFunc, h | .sl _ [], .iface .., h | .sl _ [], .nilIface, h
  | .sl _ [], .agg _, h | .sl _ [], .tuple _, h => by simp [constOk] at h
  | .e0, .int .., h | .e0, .float .., h | .e0, .complex .., h | .e0, .bool _, h | .e0, .pointer _, h | .e0, .string .., h
  | .e0, .map _, h | .e0, .chan _, h | .e0, .func .., h | .e0, .nilFunc, h | .e0, .iface .., h | .e0, .nilIface, h
  | .e0, .agg _, h | .e0, .tuple _, h => by simp [constOk] at h
  | .nilp, .int .., h | .nilp, .float .., h | .nilp, .complex .., h | .nilp, .bool _, h | .nilp, .slice .., h | .nilp, .string .., h
  | .nilp, .map _, h | .nilp, .chan _, h | .nilp, .func .., h | .nilp, .nilFunc, h | .nilp, .iface .., h | .nilp, .nilIface, h
  | .nilp, .agg _, h | .nilp, .tuple _, h => by simp [constOk] at h
  | .nilf, .int .., h | .nilf, .float .., h | .nilf, .complex .., h | .nilf, .bool _, h | .nilf, .slice .., h | .nilf, .string .., h
  | .nilf, .map _, h | .nilf, .chan _, h | .nilf, .func .., h | .nilf, .pointer _, h | .nilf, .iface .., h | .nilf, .nilIface, h
  | .nilf, .agg _, h | .nilf, .tuple _, h => by simp [constOk] at h
  | .nilm, .int .., h | .nilm, .float .., h | .nilm, .complex .., h | .nilm, .bool _, h | .nilm, .slice .., h | .nilm, .string .., h
  | .nilm, .pointer _, h | .nilm, .chan _, h | .nilm, .func .., h | .nilm, .nilFunc, h | .nilm, .iface .., h | .nilm, .nilIface, h
  | .nilm, .agg _, h | .nilm, .tuple _, h => by simp [constOk] at h
  | .agg k, .int .., h | .agg k, .float .., h | .agg k, .complex .., h | .agg k, .bool _, h | .agg k, .slice .., h | .agg k, .string .., h
  | .agg k, .pointer _, h | .agg k, .chan _, h | .agg k, .func .., h | .agg k, .nilFunc, h | .agg k, .iface .., h | .agg k, .nilIface, h
  | .agg k, .map _, h | .agg k, .tuple _, h => by simp [constOk] at h
  | .fn f [], .int .., h | .fn f [], .float .., h | .fn f [], .complex .., h | .fn f [], .bool _, h | .fn f [], .slice .., h | .fn f [], .string .., h
  | .fn f [], .pointer _, h | .fn f [], .chan _, h | .fn f [], .nilFunc, h | .fn f [], .iface .., h | .fn f [], .nilIface, h
  | .fn f [], .map _, h | .fn f [], .tuple _, h | .fn f [], .agg _, h | .fn f [], .func (.method _) _ _, h | .fn f [], .func (.methodOf _ _) _ _, h
  | .fn f [], .func (.via _ _ _ _) _ _, h | .fn f [], .func (.yield _) _ _, h => by simp [constOk] at h
theorem constOkL_rep (H : Hp) (β : Bt) : ∀ (cs : List AV) (vs : List Value), constOkL cs vs = true →
    cs.length = vs.length ∧ (∀ c ∈ cs, c.isCell = true) ∧ ∀ (i : Nat) c v, cs[i]? = some c → vs[i]? = some v → Rep H β c v
  | [], [], _ => by simp
  | c :: cs, v :: vs, h => by
    simp only [constOkL, Bool.and_eq_true] at h
    obtain ⟨⟨hc, h1⟩, h2⟩ := h
    obtain ⟨h3, h4, h5⟩ := constOkL_rep H β cs vs h2
    refine ⟨by simp [h3], by simpa [hc] using h4, fun i c' v' hi hv => ?_⟩
    cases i with
    | zero => simp at hi hv; subst hi; subst hv; exact constOk_rep H β _ _ h1
    | succ i => exact h5 i c' v' (by simpa using hi) (by simpa using hv)
  | [], _ :: _, h | _ :: _, [], h => by simp [constOkL] at h
end

def chkAr : Ar → Operand → Bool
  | .t n, .tmp m => n == m
  | .c v, .const x => constOk v x
  | .c (.fn f []), .func g => f == g
  | _, _ => false

theorem Rel.ar {H : Hp} {F : Fr} {β : Bt} {N : Nat} {st : St} {a : Act} {w : World} (h : Rel H F β N st a w) {x : Ar} {y : Operand} (hc : chkAr x y = true) :
    Rep H β (ar st.env x) (a.eval y) := by
  cases x with
  | t n =>
    cases y <;> simp [chkAr] at hc
    subst hc; exact h.env n
  | c v =>
    cases y with
    | const x =>
      have hc' : constOk v x = true := by simpa [chkAr] using hc
      exact constOk_rep _ _ v x hc'
    | func g =>
      cases v <;> simp [chkAr] at hc
      rename_i f cs
      cases cs with
      | nil => simp at hc; subst hc; exact .fn rfl (by simp)
      | cons _ _ => simp at hc
    | tmp _ => simp [chkAr] at hc
    | global _ => simp [chkAr] at hc

end Go.Fw
