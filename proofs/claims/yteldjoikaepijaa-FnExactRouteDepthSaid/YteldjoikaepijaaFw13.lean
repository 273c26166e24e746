/- Contracts and calls. -/
import Derived.Test.YteldjoikaepijaaFw12
namespace Go.Fw
open Go

mutual
def AV.ren (ρ : Nat → Nat) : AV → AV
  | .ms i es off len => .ms (ρ i) es off len
  | .mp i r off => .mp (ρ i) r off
  | .mapr i => .mapr (ρ i)
  | .agg cs => .agg (AV.renL ρ cs)
  | .tup cs => .tup (AV.renL ρ cs)
  | .fn f cs => .fn f (AV.renL ρ cs)
  | .opt b v => .opt b (v.ren ρ)
  | .junk => .junk
  | .int k n => .int k n
  | .bool b => .bool b
  | .str s => .str s
  | .e0 => .e0
  | .sl es rows => .sl es rows
  | .ip cs => .ip cs
  | .nilp => .nilp
  | .nilf => .nilf
  | .nilm => .nilm
def AV.renL (ρ : Nat → Nat) : List AV → List AV
  | [] => []
  | c :: cs => c.ren ρ :: AV.renL ρ cs
end

theorem AV.renL_eq (ρ : Nat → Nat) : ∀ l : List AV, AV.renL ρ l = l.map (AV.ren ρ)
  | [] => by simp [AV.renL]
  | c :: cs => by simp [AV.renL, AV.renL_eq ρ cs]

theorem AV.isCell_ren (ρ : Nat → Nat) (v : AV) : (v.ren ρ).isCell = v.isCell := by cases v <;> simp [AV.ren]

mutual
theorem AV.ren_pure (ρ : Nat → Nat) : ∀ v : AV, v.pure = true → v.ren ρ = v
  | .ms .., h | .mp .., h | .mapr _, h => by simp at h
  | .agg cs, h => by simp only [AV.ren]; rw [AV.renL_pure ρ cs (by simpa using h)]
  | .tup cs, h => by simp only [AV.ren]; rw [AV.renL_pure ρ cs (by simpa using h)]
  | .fn f cs, h => by simp only [AV.ren]; rw [AV.renL_pure ρ cs (by simpa using h)]
  | .opt b v, h => by simp only [AV.ren]; rw [AV.ren_pure ρ v (by simpa using h)]
  | .junk, _ | .int _ _, _ | .bool _, _ | .str _, _ | .e0, _ | .sl _ _, _ | .ip _, _ | .nilp, _ | .nilf, _ | .nilm, _ => by simp [AV.ren]
theorem AV.renL_pure (ρ : Nat → Nat) : ∀ l : List AV, AV.pureL l = true → AV.renL ρ l = l
  | [], _ => by simp [AV.renL]
  | c :: cs, h => by
    simp only [pureL_cons, Bool.and_eq_true] at h
    simp only [AV.renL]; rw [AV.ren_pure ρ c h.1, AV.renL_pure ρ cs h.2]
end

theorem Rep.ren {H : Hp} {β β' : Bt} {v : AV} {x : Value} {ρ : Nat → Nat} (r : Rep H β v x) (h : ∀ (i : Nat) y, β[i]? = some y → β'[ρ i]? = some y) : Rep H β' (v.ren ρ) x := by
  induction r generalizing β' with
  | junk => exact .junk
  | int hr => simp only [AV.ren]; exact .int hr
  | bool => simp only [AV.ren]; exact .bool
  | str hr => simp only [AV.ren]; exact .str hr
  | agg hl hc _ ih =>
    simp only [AV.ren, AV.renL_eq]
    refine .agg (by simpa using hl) (fun c hc' => ?_) fun i c v h1 h2 => ?_
    · obtain ⟨d, hd, rfl⟩ := List.mem_map.1 hc'
      rw [AV.isCell_ren]; exact hc d hd
    · rw [List.getElem?_map, Option.map_eq_some_iff] at h1
      obtain ⟨d, hd, rfl⟩ := h1
      exact ih i d v hd h2 h
  | tup hl _ ih =>
    simp only [AV.ren, AV.renL_eq]
    refine .tup (by simpa using hl) fun i c v h1 h2 => ?_
    rw [List.getElem?_map, Option.map_eq_some_iff] at h1
    obtain ⟨d, hd, rfl⟩ := h1
    exact ih i d v hd h2 h
  | e0 => simp only [AV.ren]; exact .e0
  | sl b o cells f hlen hcap hbig hes hblk hc hcell hh _ => simp only [AV.ren]; exact .sl b o cells f hlen hcap hbig hes hblk hc hcell hh
  | ip f hH hc hcell hh _ => simp only [AV.ren]; exact .ip f hH hc hcell hh
  | ms hβ h1 hlen hbig => simp only [AV.ren]; exact .ms (h _ _ hβ) h1 hlen hbig
  | ms0 hβ => simp only [AV.ren]; exact .ms0 (h _ _ hβ)
  | mp hβ => simp only [AV.ren]; exact .mp (h _ _ hβ)
  | fn hl _ ih =>
    simp only [AV.ren, AV.renL_eq]
    refine .fn (by simpa using hl) fun i c v h1 h2 => ?_
    rw [List.getElem?_map, Option.map_eq_some_iff] at h1
    obtain ⟨d, hd, rfl⟩ := h1
    exact ih i d v hd h2 h
  | mapr hβ => simp only [AV.ren]; exact .mapr (h _ _ hβ)
  | nilp => simp only [AV.ren]; exact .nilp
  | nilf => simp only [AV.ren]; exact .nilf
  | nilm => simp only [AV.ren]; exact .nilm
  | opt _ ih => simp only [AV.ren]; exact .opt fun hb => ih hb h

mutual
theorem Rep.unren {H : Hp} {β β' : Bt} {ρ : Nat → Nat} {n : Nat} (h : ∀ (i : Nat) y, i < n → β'[ρ i]? = some y → β[i]? = some y) : ∀ (v : AV) (x : Value), v.bel n = true → Rep H β' (v.ren ρ) x → Rep H β v x
  | .junk, _, _, _ => .junk
  | .int _ _, _, _, r => by simp only [AV.ren] at r; cases r; exact .int (by assumption)
  | .bool _, _, _, r => by simp only [AV.ren] at r; cases r; exact .bool
  | .str _, _, _, r => by simp only [AV.ren] at r; cases r; exact .str (by assumption)
  | .e0, _, _, r => by simp only [AV.ren] at r; cases r; exact .e0
  | .nilp, _, _, r => by simp only [AV.ren] at r; cases r; exact .nilp
  | .nilf, _, _, r => by simp only [AV.ren] at r; cases r; exact .nilf
  | .nilm, _, _, r => by simp only [AV.ren] at r; cases r; exact .nilm
  | .sl _ _, _, _, r => by simp only [AV.ren] at r; exact r.pure (by simp) β
  | .ip _, _, _, r => by simp only [AV.ren] at r; exact r.pure (by simp) β
  | .ms i es off len, _, hb, r => by
    simp only [AV.ren] at r
    simp [AV.bel] at hb
    cases r with
    | ms hβ h1 hlen hbig => exact .ms (h i _ hb hβ) h1 hlen hbig
    | ms0 hβ => exact .ms0 (h i _ hb hβ)
  | .mp i r' off, _, hb, r => by
    simp only [AV.ren] at r
    simp [AV.bel] at hb
    cases r with
    | mp hβ => exact .mp (h i _ hb hβ)
  | .mapr i, _, hb, r => by
    simp only [AV.ren] at r
    simp [AV.bel] at hb
    cases r with
    | mapr hβ => exact .mapr (h i _ hb hβ)
  | .opt b v, x, hb, r => by
    simp only [AV.ren] at r
    simp only [AV.bel] at hb
    cases r with
    | opt hh => exact .opt fun hbt => Rep.unren h v x hb (hh hbt)
  | .agg cs, _, hb, r => by
    simp only [AV.ren] at r
    simp only [AV.bel] at hb
    cases r with
    | @agg _ _ vs hl hc hh =>
      obtain ⟨g1, g2⟩ := Rep.unrenL h cs vs.toList hb (fun i c v h1 h2 => hh i c v h1 (by simpa using h2))
      refine .agg (by rw [hl, AV.renL_eq]; simp) (fun c hc' => ?_) fun i c v h1 h2 => g2 i c v h1 (by simpa using h2)
      rw [← AV.isCell_ren ρ]
      exact hc _ (by rw [AV.renL_eq]; exact List.mem_map.2 ⟨c, hc', rfl⟩)
  | .tup cs, _, hb, r => by
    simp only [AV.ren] at r
    simp only [AV.bel] at hb
    cases r with
    | @tup _ _ vs hl hh =>
      obtain ⟨g1, g2⟩ := Rep.unrenL h cs vs.toList hb (fun i c v h1 h2 => hh i c v h1 (by simpa using h2))
      exact .tup (by rw [hl, AV.renL_eq]; simp) fun i c v h1 h2 => g2 i c v h1 (by simpa using h2)
  | .fn f cs, _, hb, r => by
    simp only [AV.ren] at r
    simp only [AV.bel] at hb
    cases r with
    | @fn _ _ _ vs hl hh =>
      obtain ⟨g1, g2⟩ := Rep.unrenL h cs vs.toList hb (fun i c v h1 h2 => hh i c v h1 (by simpa using h2))
      exact .fn (by rw [hl, AV.renL_eq]; simp) fun i c v h1 h2 => g2 i c v h1 (by simpa using h2)
theorem Rep.unrenL {H : Hp} {β β' : Bt} {ρ : Nat → Nat} {n : Nat} (h : ∀ (i : Nat) y, i < n → β'[ρ i]? = some y → β[i]? = some y) : ∀ (cs : List AV) (vs : List Value), AV.belL n cs = true →
    (∀ (i : Nat) c v, (AV.renL ρ cs)[i]? = some c → vs[i]? = some v → Rep H β' c v) → True ∧ ∀ (i : Nat) c v, cs[i]? = some c → vs[i]? = some v → Rep H β c v
  | [], _, _, _ => by simp
  | _ :: _, [], _, _ => by simp
  | c :: cs, v :: vs, hb, hh => by
    simp only [AV.belL, Bool.and_eq_true] at hb
    simp only [AV.renL] at hh
    refine ⟨trivial, fun i c' v' h1 h2 => ?_⟩
    cases i with
    | zero =>
      simp at h1 h2; subst h1; subst h2
      exact Rep.unren h c v hb.1 (hh 0 _ _ rfl rfl)
    | succ i =>
      exact (Rep.unrenL h cs vs hb.2 (fun i c v g1 g2 => hh (i + 1) c v (by simpa using g1) (by simpa using g2))).2 i c' v' (by simpa using h1) (by simpa using h2)
end

def Ent.ren (ρ : Nat → Nat) : Ent → Ent
  | .dead => .dead
  | .arr es rows => .arr es (rows.map fun r => r.map (AV.ren ρ))
  | .mp es => .mp (es.map fun e => (e.1.ren ρ, e.2.ren ρ))
theorem Ent.live_ren (ρ : Nat → Nat) (e : Ent) : (e.ren ρ).live = e.live := by cases e <;> rfl

theorem EntOk.ren {H : Hp} {β β' : Bt} {w : World} {e : Ent} {x : Option (Nat × Nat × Nat)} {ρ : Nat → Nat} (h : EntOk H β w e x) (hρ : ∀ (i : Nat) y, β[i]? = some y → β'[ρ i]? = some y) : EntOk H β' w (e.ren ρ) x := by
  cases e with
  | dead => trivial
  | arr es rows =>
    cases x with
    | none => simp only [EntOk] at h; subst h; rfl
    | some x =>
      obtain ⟨b, es', cap⟩ := x
      obtain ⟨h1, cells, elem, h2, h3, h4, h5, h6, h7⟩ := h
      refine ⟨h1, cells, elem, h2, h3, by simpa using h4, ?_, ?_, fun i r j c hr hc => ?_⟩
      · intro r hr; obtain ⟨q, hq, rfl⟩ := List.mem_map.1 hr; simpa using h5 q hq
      · intro r hr c hc
        obtain ⟨q, hq, rfl⟩ := List.mem_map.1 hr
        obtain ⟨d, hd, rfl⟩ := List.mem_map.1 hc
        rw [AV.isCell_ren]; exact h6 q hq d hd
      · rw [List.getElem?_map, Option.map_eq_some_iff] at hr
        obtain ⟨q, hq, rfl⟩ := hr
        rw [List.getElem?_map, Option.map_eq_some_iff] at hc
        obtain ⟨d, hd, rfl⟩ := hc
        obtain ⟨v, hv, hrep⟩ := h7 i q j d hq hd
        exact ⟨v, hv, hrep.ren hρ⟩
  | mp es =>
    cases x with
    | none => exact h
    | some x =>
      obtain ⟨b, es', cap⟩ := x
      obtain ⟨ents, clock, h2, h3, h4⟩ := h
      refine ⟨ents, clock, h2, by simpa using h3, fun i k v e hi he => ?_⟩
      rw [List.getElem?_map, Option.map_eq_some_iff] at hi
      obtain ⟨⟨k', v'⟩, hq, hkv⟩ := hi
      cases hkv
      obtain ⟨r1, r2⟩ := h4 i k' v' e hq he
      exact ⟨r1.ren hρ, r2.ren hρ⟩

theorem EntOk.unren {H : Hp} {β β' : Bt} {w : World} {e : Ent} {x : Option (Nat × Nat × Nat)} {ρ : Nat → Nat} {n : Nat} (h : EntOk H β' w (e.ren ρ) x) (hb : e.bel n) (hρ : ∀ (i : Nat) y, i < n → β'[ρ i]? = some y → β[i]? = some y) : EntOk H β w e x := by
  cases e with
  | dead => trivial
  | arr es rows =>
    cases x with
    | none => simp only [Ent.ren, EntOk, List.map_eq_nil_iff] at h; exact h
    | some x =>
      obtain ⟨b, es', cap⟩ := x
      obtain ⟨h1, cells, elem, h2, h3, h4, h5, h6, h7⟩ := h
      refine ⟨h1, cells, elem, h2, h3, by simpa using h4, ?_, ?_, fun i r j c hr hc => ?_⟩
      · intro r hr; simpa using h5 _ (List.mem_map.2 ⟨r, hr, rfl⟩)
      · intro r hr c hc
        rw [← AV.isCell_ren ρ]
        exact h6 _ (List.mem_map.2 ⟨r, hr, rfl⟩) _ (List.mem_map.2 ⟨c, hc, rfl⟩)
      · obtain ⟨v, hv, hrep⟩ := h7 i (r.map (AV.ren ρ)) j (c.ren ρ) (by simp [hr]) (by simp [hc])
        exact ⟨v, hv, Rep.unren hρ c v (hb r (List.mem_of_getElem? hr) c (List.mem_of_getElem? hc)) hrep⟩
  | mp es =>
    cases x with
    | none => exact h
    | some x =>
      obtain ⟨b, es', cap⟩ := x
      obtain ⟨ents, clock, h2, h3, h4⟩ := h
      refine ⟨ents, clock, h2, by simpa using h3, fun i k v e hi he => ?_⟩
      obtain ⟨r1, r2⟩ := h4 i (k.ren ρ) (v.ren ρ) e (by simp [hi]) he
      have := hb _ (List.mem_of_getElem? hi)
      exact ⟨Rep.unren hρ k _ this.1 r1, Rep.unren hρ v _ this.2 r2⟩

/-- The contract of a function: called with these arguments and owned blocks it answers 'R'. -/
def Spec (P : Program) (f : FuncId) (args : List AV) (mem : List Ent) (R : AV → List Ent → Prop) : Prop :=
  (∀ as w, (callFunc f as).run P w = .ok (.enter f as) w) ∧
  ∀ (H : Hp) (F : Fr) (β : Bt) (cargs : Array Value) (w : World), Sat H F β mem w → cargs.size = args.length → (∀ (i : Nat) v x, args[i]? = some v → cargs[i]? = some x → Rep H β v x) →
    Calls P f cargs w fun e w' => ∃ v r m' H' β', e = .returned v ∧ R r m' ∧ Rep H' β' r v ∧ Sat H' F β' m' w' ∧ HX F H H' ∧ BEq0 mem.length β β' ∧ mem.length ≤ m'.length

theorem Spec.mono {P : Program} {f : FuncId} {args : List AV} {mem : List Ent} {R R' : AV → List Ent → Prop} (h : Spec P f args mem R) (hR : ∀ r m, R r m → R' r m) : Spec P f args mem R' :=
  ⟨h.1, fun H F β cargs w hs hl ha => (h.2 H F β cargs w hs hl ha).mono fun _ _ ⟨v, r, m', H', β', h1, h2, h3⟩ => ⟨v, r, m', H', β', h1, hR _ _ h2, h3⟩⟩

def argEnv : Nat → List AV → List (Nat × AV)
  | _, [] => []
  | n, v :: l => (n, v) :: argEnv (n + 1) l

theorem look_argEnv : ∀ (l : List AV) (n i : Nat), look (argEnv n l) i = if n ≤ i then l.getD (i - n) .junk else .junk
  | [], n, i => by simp [argEnv]
  | v :: l, n, i => by
    simp only [argEnv, look, look_argEnv l (n + 1) i]
    by_cases h : n = i
    · subst h; simp
    · rw [if_neg h]
      by_cases h2 : n ≤ i
      · rw [if_pos (by omega), if_pos h2, show i - n = (i - (n + 1)) + 1 by omega]; simp
      · rw [if_neg (by omega), if_neg h2]

theorem Spec.of_AW {P : Program} {f : FuncId} {fn : Func} {c0 : Code} {c : CC} {args : List AV} {mem : List Ent} {R : AV → List Ent → Prop} (hf : P.funcs[f]? = some fn) (hcall : ∀ as w, (callFunc f as).run P w = .ok (.enter f as) w)
    (hb : fn.body = some c0) (hc : chkC P fn.ntmps c c0 = true) (hn : args.length ≤ fn.ntmps) (hR : ∀ r m, R r m → mem.length ≤ m.length) (h : AW ⟨P, fn, mem.length, R⟩ [.code c] ⟨argEnv 0 args, mem⟩) : Spec P f args mem R := by
  refine ⟨hcall, fun H F β cargs w hs hl ha cs => ?_⟩
  let b : Frame := { (default : Frame) with fn := f, kind := .normal }
  have henter : Frame.enter P f cargs .normal = b.at { tmps := cargs ++ Array.replicate (fn.ntmps - cargs.size) undef, defers := [] } [.code c0] := by
    simp [Frame.enter, Frame.at, hf, hb, b]
  obtain ⟨a', todo', w', v, r, m', H', β', s1, s2, s3, s4, s5, s6, s7, s8⟩ := h H F β { tmps := cargs ++ Array.replicate (fn.ntmps - cargs.size) undef, defers := [] } w b cs [.code c0] (.code hc .nil)
    ⟨rfl, by simp; omega, fun n => by
      rw [look_argEnv, if_pos (Nat.zero_le _), Nat.sub_zero]
      by_cases hlt : n < args.length
      · have h1 : args[n]? = some args[n] := List.getElem?_eq_getElem hlt
        have h2 : cargs[n]? = some cargs[n] := Array.getElem?_eq_getElem (by omega)
        have := ha n _ _ h1 h2
        have e1 : args.getD n .junk = args[n] := by simp [hlt]
        have e2 : (cargs ++ Array.replicate (fn.ntmps - cargs.size) undef).getD n undef = cargs[n]'(by omega) := by
          have : n < cargs.size := by omega
          simp [Array.getElem?_append_left this, this]
        simp only [e1, e2]; exact this
      · have e1 : args.getD n .junk = .junk := by simp [hlt]
        rw [e1]; exact .junk, hs⟩ (Nat.le_refl _)
  exact ⟨.returned v, w', _, ⟨v, r, m', H', β', rfl, s4, s5, s6, s7, s8, hR _ _ s4⟩, by rw [henter]; exact s1, rfl, rfl, s2, rfl, fn, hf, s3⟩

end Go.Fw
