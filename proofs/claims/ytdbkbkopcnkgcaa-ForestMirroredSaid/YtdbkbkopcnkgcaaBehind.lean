import Derived.Test.YtdbkbkopcnkgcaaWorld
import Derived.BigQuiet
import Derived.Deep.QuietTactic
open Go Go.RowKit
namespace Go.Proofs.Ytdbkbkopcnkgcaa

/-- a world in which nothing of w has turned -/
structure Behind (w : World) where
  w' : World
  h : Below w.heap.size w w'

instance (w : World) : Inhabited (Behind w) := ⟨⟨w, Below.refl _ _⟩⟩

/-- a region that draws its order, whose operations read and whose calls leave what was there: walked once, in the order of the text -/
theorem wp_region_behind {P : Program} {id : Nat} {Q : Exit → Act → World → Prop} {a : Act} {w : World} {l : List Oper} (hm : P.follows .mixedOrders = true) (hB : Region.lexB .any l.toArray = true)
    (h : wpQuiet P l.toArray (fun w' => ∃ p : Behind w, w' = p.w') (fun a' => ∀ w', (∃ p : Behind w, w' = p.w') → Q .normal a' w') l a) : (Code.region id l.toArray true).wp P Q a w :=
  wp_region_quiet (C := fun w' => ∃ p : Behind w, w' = p.w') hm hB ⟨⟨_, (Below.refl _ _).drew⟩, rfl⟩ (by simpa using h)

theorem Calls.behind {P : Program} {f : FuncId} {args : Array Value} {w : World} {p : Behind w} {v : Value} (h : Calls P f args p.w' fun e w'' => e = .returned v ∧ Below p.w'.heap.size p.w' w'') : Calls P f args p.w' fun e w'' => e = .returned v ∧ ∃ p2 : Behind w, w'' = p2.w' :=
  h.mono fun _ w'' ⟨he, hb⟩ => ⟨he, ⟨w'', p.h.trans (hb.mono p.h.size)⟩, rfl⟩
theorem Calls.behind_same {P : Program} {f : FuncId} {args : Array Value} {w : World} {p : Behind w} {v : Value} (h : Calls P f args p.w' fun e w'' => e = .returned v ∧ p.w' = w'') : Calls P f args p.w' fun e w'' => e = .returned v ∧ ∃ p2 : Behind w, w'' = p2.w' :=
  h.mono fun _ _ ⟨he, hb⟩ => ⟨he, p, hb.symm⟩
/-- an old cell, in every such world -/
theorem cell_behind {w : World} {b i : Nat} {v : Value} (h : w.cell? ⟨b, i, none⟩ = some v) (p : Behind w) : p.w'.cell? ⟨b, i, none⟩ = some v := (p.h.cell (p := ⟨b, i, none⟩) (World.block_lt_of_cell? w _ h)).trans h
end Go.Proofs.Ytdbkbkopcnkgcaa
