/- From a contract over abstract values to the kit's calls. -/
import Derived.Test.YteldjoikaepijaaFw20
import Derived.ProofKit
namespace Go.Fw
open Go Go.RowKit

/-- All that the world holds, held as it is. -/
def heapOf (W : World) : Hp := fun b => W.heap[b]?

theorem PS.calls {P : Program} {f : FuncId} {args : List AV} {r : AV} (h : PS P f args r) (W : World) (cargs : Array Value) (hl : cargs.size = args.length)
    (ha : ∀ (i : Nat) v x, args[i]? = some v → cargs[i]? = some x → Rep (heapOf W) [] v x) :
    Calls P f cargs W fun e W' => ∃ v, e = .returned v ∧ Below W.heap.size W W' ∧ ∃ H', Rep H' [] r v := by
  have hs : Sat (heapOf W) ⟨fun _ => none, W⟩ [] [] W :=
    { hH := fun b o hb => hb, hF := (fun b o hb => by cases hb), sm := ⟨rfl, rfl, rfl, Nat.le_refl _⟩, hl := rfl, ent := fun i e x hi => by simp at hi, apart := fun i e x hi => by simp at hi,
      inj := fun i j e e' x y hi => by simp at hi }
  refine (h.sp.2 (heapOf W) ⟨fun _ => none, W⟩ [] cargs W hs hl ha).mono fun e w' ⟨v, r', m', H', β', h1, ⟨h2, _⟩, h3, h4, h5, _⟩ => ?_
  subst h2
  refine ⟨v, h1, ⟨h4.sm.os, h4.sm.tape, h4.sm.output, h4.sm.size, fun k hk => ?_⟩, H', h3.pure h.pr _⟩
  have hb : heapOf W k = some W.heap[k] := by simp [heapOf, hk]
  rw [h4.hH _ _ (h5.1 _ _ hb)]
  exact hb.symm

end Go.Fw
