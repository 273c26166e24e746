/- Regions that draw their order: the condition in the order of the text serves for every order. -/
import Derived.Test.YteldjoikaepijaaFw15
namespace Go.Fw
open Go

/-- A call in such a region that has to do with owned blocks. -/
structure CR where
  r : AV
  argsC : List AV
  memC : List Ent
  is : List Nat
  m0 : List Ent

def lookC : List (Nat × CR) → Option Nat → Option CR
  | [], _ => none
  | _ :: _, none => none
  | (m, v) :: r, some n => if m = n then some v else lookC r (some n)

@[simp] theorem lookC_nil {n : Option Nat} : lookC [] n = none := rfl
@[simp] theorem lookC_cons {m n : Nat} {v : CR} {r : List (Nat × CR)} : lookC ((m, v) :: r) (some n) = if m = n then some v else lookC r (some n) := rfl

/-- 0: asks nothing of the owned blocks; 1: reads them; 2: changes them. -/
def clsK (cr : List (Nat × CR)) (d : Option Nat) (k : K) (env : List (Nat × AV)) : Nat :=
  match k with
  | .mv _ | .pick _ _ _ | .boxi _ _ | .build _ _ | .bsl _ _ | .bsl0 | .nilc _ | .bin _ _ _ | .beq _ _ _ | .not _ | .neg _ | .conv _ _ | .sub _ _ _ | .slc _ _ _ _ | .fa _ _ | .field _ _ _ | .ia _ _ _
  | .idx _ _ | .lens _ | .lenl _ | .ext _ _ | .mkfn _ _ | .mx _ _ _ => 0
  | .load _ x => match ar env x with
    | .ip _ => 0
    | _ => 1
  | .b2s x => match ar env x with
    | .sl _ _ => 0
    | .e0 => 0
    | _ => 1
  | .boxm _ _ | .alloc _ | .bslm _ _ | .store _ _ _ | .app _ _ _ | .apps _ _ | .mks _ _ _ => 2
  | .call _ _ => match lookC cr d with
    | some _ => 2
    | none => 0
  | .callv _ _ => 2

def evD {P : Program} (Φ : List (En P)) (cr : List (Nat × CR)) (d : Option Nat) (k : K) (env : List (Nat × AV)) (mem : List Ent) : Option Ev :=
  match k with
  | .call f xs => match lookC cr d with
    | some c => some (CallOk ⟨[], mem⟩ (xs.map (ar env)) c.argsC c.memC c.is ∧ Spec P f c.argsC c.memC (fun r' m' => r' = c.r ∧ m' = c.m0), c.r.ren (ren c.is mem.length), memAfter mem c.is c.m0)
    | none => evX Φ (.call f xs) env mem
  | .callv _ _ => none
  | k => evK k env mem

theorem ar_congr {env env' : List (Nat × AV)} {xs : List Ar} (h : ∀ x ∈ xs, ar env x = ar env' x) : xs.map (ar env) = xs.map (ar env') := List.map_congr_left h

theorem bnd_congr {env env' : List (Nat × AV)} {d : Int} {x : Option Ar} (h : ∀ y ∈ x.toList, ar env y = ar env' y) : bnd env d x = bnd env' d x := by
  cases x with
  | none => rfl
  | some y => simp only [bnd, h y (by simp)]

theorem all_congr' {α : Type} {l : List α} {p q : α → Bool} (h : ∀ x ∈ l, p x = q x) : l.all p = l.all q := by
  induction l with
  | nil => rfl
  | cons x l ih => simp only [List.all_cons, h x (by simp), ih fun y hy => h y (by simp [hy])]

theorem evK_congr {k : K} {env env' : List (Nat × AV)} {mem : List Ent} (h : ∀ x ∈ k.ars, ar env x = ar env' x) : evK k env mem = evK k env' mem := by
  cases k with
  | build zs ps =>
    have h1 : ∀ p ∈ ps, ar env p.2.2 = ar env' p.2.2 := fun p hp => h _ (by simp only [K.ars, List.mem_map]; exact ⟨p, hp, rfl⟩)
    have e1 : (ps.map fun x => (x.1, (ar env x.2.2).cells)) = ps.map fun x => (x.1, (ar env' x.2.2).cells) := List.map_congr_left fun p hp => by rw [h1 p hp]
    have e2 : (ps.all fun x => (ar env x.2.2).cells.length == x.2.1 && (ar env x.2.2).cells.all AV.isCell && decide (x.1 + x.2.1 ≤ zs.length)) =
        ps.all fun x => (ar env' x.2.2).cells.length == x.2.1 && (ar env' x.2.2).cells.all AV.isCell && decide (x.1 + x.2.1 ≤ zs.length) := all_congr' fun p hp => by rw [h1 p hp]
    simp only [evK]
    rw [e1, e2]
  | bsl es ps =>
    have h1 : ∀ p ∈ ps, ar env p = ar env' p := fun p hp => h _ hp
    have e1 : (ps.map fun x => (ar env x).cells) = ps.map fun x => (ar env' x).cells := List.map_congr_left fun p hp => by rw [h1 p hp]
    have e2 : (ps.all fun x => (ar env x).cells.length == es && (ar env x).cells.all fun c => c.isCell && c.pure) = ps.all fun x => (ar env' x).cells.length == es && (ar env' x).cells.all fun c => c.isCell && c.pure :=
      all_congr' fun p hp => by rw [h1 p hp]
    simp only [evK]
    rw [e1, e2]
  | bslm es ps =>
    have h1 : ∀ p ∈ ps, ar env p = ar env' p := fun p hp => h _ hp
    have e1 : (ps.map fun x => (ar env x).cells) = ps.map fun x => (ar env' x).cells := List.map_congr_left fun p hp => by rw [h1 p hp]
    have e2 : (ps.all fun x => (ar env x).cells.length == es && (ar env x).cells.all AV.isCell) = ps.all fun x => (ar env' x).cells.length == es && (ar env' x).cells.all AV.isCell :=
      all_congr' fun p hp => by rw [h1 p hp]
    simp only [evK]
    rw [e1, e2]
  | sub x lo hi =>
    have h0 : ar env x = ar env' x := h x (by simp [K.ars])
    have e1 : ∀ d, bnd env d lo = bnd env' d lo := fun d => bnd_congr fun y hy => h y (by simp only [K.ars, List.mem_cons, List.mem_append]; exact .inr (.inl hy))
    have e2 : ∀ d, bnd env d hi = bnd env' d hi := fun d => bnd_congr fun y hy => h y (by simp only [K.ars, List.mem_cons, List.mem_append]; exact .inr (.inr hy))
    simp only [evK, h0, e1, e2]
  | slc es x lo hi =>
    have h0 : ar env x = ar env' x := h x (by simp [K.ars])
    have e1 : ∀ d, bnd env d lo = bnd env' d lo := fun d => bnd_congr fun y hy => h y (by simp only [K.ars, List.mem_cons, List.mem_append]; exact .inr (.inl hy))
    have e2 : ∀ d, bnd env d hi = bnd env' d hi := fun d => bnd_congr fun y hy => h y (by simp only [K.ars, List.mem_cons, List.mem_append]; exact .inr (.inr hy))
    simp only [evK, h0, e1, e2]
  | mkfn f xs =>
    simp only [evK]; rw [ar_congr (xs := xs) (fun x hx => h x hx)]
  | load n x =>
    have h0 : ar env x = ar env' x := h x (by simp [K.ars])
    cases n <;> simp only [evK, h0]
  | field o n x =>
    have h0 : ar env x = ar env' x := h x (by simp [K.ars])
    cases n <;> simp only [evK, h0]
  | pick c a b =>
    have h0 : ar env c = ar env' c := h c (by simp [K.ars])
    have h1 : ar env a = ar env' a := h a (by simp [K.ars])
    have h2 : ar env b = ar env' b := h b (by simp [K.ars])
    simp only [evK, h0, h1, h2]
  | store _ a x | bin _ a x | beq _ a x | ia _ a x | idx a x | app _ a x | apps a x | mx _ a x =>
    have h0 : ar env a = ar env' a := h a (by simp [K.ars])
    have h1 : ar env x = ar env' x := h x (by simp [K.ars])
    simp only [evK, h0, h1]
  | mv x | boxi _ x | boxm _ x | nilc x | not x | neg x | conv _ x | b2s x | fa _ x | lens x | lenl x | ext x _ | mks _ _ x =>
    have h0 : ar env x = ar env' x := h x (by simp [K.ars])
    simp only [evK, h0]
  | alloc _ | bsl0 | call _ _ | callv _ _ => rfl

theorem evD_congr {P : Program} {Φ : List (En P)} {cr : List (Nat × CR)} {d : Option Nat} {k : K} {env env' : List (Nat × AV)} {mem : List Ent} (h : ∀ x ∈ k.ars, ar env x = ar env' x) :
    evD Φ cr d k env mem = evD Φ cr d k env' mem := by
  cases k <;> try exact evK_congr h
  · rename_i f xs; simp only [evD, evX]; rw [ar_congr (xs := xs) (fun x hx => h x hx)]
  · rfl

theorem clsK_congr {cr : List (Nat × CR)} {d : Option Nat} {k : K} {env env' : List (Nat × AV)} (h : ∀ x ∈ k.ars, ar env x = ar env' x) : clsK cr d k env = clsK cr d k env' := by
  cases k <;> try rfl
  · rename_i n x; simp only [clsK, h x (by simp [K.ars])]
  · rename_i x; simp only [clsK, h x (by simp [K.ars])]

theorem evD_cls1 {P : Program} {Φ : List (En P)} {cr : List (Nat × CR)} {d : Option Nat} {k : K} {env : List (Nat × AV)} {mem : List Ent} {r : Ev} (hc : clsK cr d k env ≤ 1) (h : evD Φ cr d k env mem = some r) : r.2.2 = mem := by
  cases k <;> simp only [clsK] at hc <;> try (exact absurd hc (by decide))
  case call f xs =>
    cases hl : lookC cr d with
    | some c => simp only [hl] at hc; exact absurd hc (by decide)
    | none =>
      simp only [evD, hl, evX] at h
      split at h
      · split at h
        · cases h; rfl
        · cases h
      · cases h
  case load n x =>
    cases n <;> simp only [evD, evK] at h <;> (repeat' split at h) <;> cases h <;> rfl
  case field o n x =>
    cases n <;> simp only [evD, evK] at h <;> (repeat' split at h) <;> cases h <;> rfl
  all_goals
    simp only [evD, evK] at h
    first
      | (cases h; rfl)
      | ((repeat' split at h) <;> first | (cases h; done) | (cases h; rfl))

theorem evD_cls0 {P : Program} {Φ : List (En P)} {cr : List (Nat × CR)} {d : Option Nat} {k : K} {env : List (Nat × AV)} {mem : List Ent} {r : Ev} (hc : clsK cr d k env = 0) (h : evD Φ cr d k env mem = some r) (mem' : List Ent) :
    evD Φ cr d k env mem' = some (r.1, r.2.1, mem') := by
  cases k <;> simp only [clsK] at hc <;> try (exact absurd hc (by decide))
  case call f xs =>
    cases hl : lookC cr d with
    | some c => simp only [hl] at hc; exact absurd hc (by decide)
    | none =>
      simp only [evD, hl, evX] at h ⊢
      split at h
      · split at h
        · cases h; simp [*]
        · cases h
      · cases h
  case field o n x =>
    cases n <;> simp only [evD, evK] at h ⊢ <;> (repeat' split at h) <;> cases h <;> simp [*]
  case load n x =>
    split at hc
    · rename_i cs hx
      cases n
      · simp only [evD, evK, hx] at h ⊢
        cases cs with
        | nil => simp at h
        | cons c cs => simp only [List.head?_cons, Option.some.injEq] at h; subst h; rfl
      · simp only [evD, evK, hx, Option.some.injEq] at h ⊢; subst h; rfl
    · cases hc
  case b2s x =>
    split at hc
    · rename_i es rows hx
      simp only [evD, evK, hx, rowsOf] at h ⊢
      split at h
      · rename_i rows' hr
        cases h; rfl
      · cases h
    · rename_i hx
      simp only [evD, evK, hx, rowsOf] at h ⊢
      cases h; rfl
    · cases hc
  all_goals
    simp only [evD, evK] at h ⊢
    first
      | (cases h; rfl)
      | ((repeat' split at h) <;> first | (cases h; done) | (cases h; simp [*]; done))

end Go.Fw
