import Derived.Test.YtdbkbkopcnkgcaaGreatGramC
import Derived.Deep.OwnRows
import Derived.Deep.LoopGhost
import Derived.BigQuiet
import Derived.Deep.QuietTactic
open Go Go.RowKit
namespace Go.Proofs.YtdbkbkopcnkgcaaGreat

theorem heap_set {w : World} {b : Nat} {cs : Array Value} {T : TypeId} {fr : Nat × Nat} (h : w.heap[b]? = some (.cells cs T fr)) (i : Nat) (v : Value) : (w.setCell ⟨b, i, none⟩ v).heap[b]? = some (.cells (cs.setIfInBounds i v) T fr) := by
  simp [World.setCell, Array.getElem?_modify, h]
theorem heap_set_ne {w : World} {b b' : Nat} (h : b' ≠ b) (i : Nat) (v : Value) : (w.setCell ⟨b, i, none⟩ v).heap[b']? = w.heap[b']? := Below.heap_setCell w ⟨b, i, none⟩ v b' h
theorem blk_cell {w : World} {b i : Nat} {cs : Array Value} {T : TypeId} {fr : Nat × Nat} {v : Value} (h : w.heap[b]? = some (.cells cs T fr)) (hv : cs[i]? = some v) : w.cell? ⟨b, i, none⟩ = some v := (cell_of_row w b i cs T fr h).trans hv
theorem blk_free {w : World} {b i : Nat} {cs : Array Value} {T : TypeId} (h : w.heap[b]? = some (.cells cs T (0, 0))) : w.frozen? ⟨b, i, none⟩ = false := by simp [World.frozen?, h]
theorem blk_lt {w : World} {b : Nat} {o : Obj} (h : w.heap[b]? = some o) : b < w.heap.size := (Array.getElem?_eq_some_iff.1 h).1
theorem blk_below {w w' : World} {b B : Nat} {o : Obj} (hb : Below B w w') (hB : b < B) (h : w.heap[b]? = some o) : w'.heap[b]? = some o := (hb.block b hB).trans h
theorem size_setCell (w : World) (a : Addr) (v : Value) : (w.setCell a v).heap.size = w.heap.size := by simp [World.setCell]
theorem made_one (z : Value) (n : Nat) : madeCells #[z] n = (List.replicate n z).toArray := by
  apply Array.ext'
  rw [toList_madeCells_one]

/-- a whole block of one-cell elements reads as a slice -/
theorem sl_of_blk {α : Type} {enc : α → Value} {w : World} {b n c : Nat} {xs : List α} {T : TypeId} {fr : Nat × Nat} (F : Nat → Prop) (hF : F b) (h : w.heap[b]? = some (.cells (xs.map enc).toArray T fr)) (hn : n = xs.length) (hl : n ≤ 9223372036854775807) : IsSl (Elt.one enc) F w (.slice (some ⟨b, 0, none⟩) n c) xs := by
  subst hn
  refine ⟨some ⟨b, 0, none⟩, c, rfl, hl, fun k hk => ⟨b, 0, rfl, hF, blk_lt h, hF, blk_cell h ?_⟩⟩
  simp [Elt.one, hk]

theorem add_lit0 (g j : Nat) : (⟨g, 0, none⟩ : Addr).add j = ⟨g, j, none⟩ := by unfold Addr.add; split <;> simp_all
theorem cells_new (w : World) (cs : List Value) (T : TypeId) (j : Nat) (u : Value) (h : cs[j]? = some u) : (w.alloc (.cells cs.toArray T)).cell? ((⟨w.heap.size, 0, none⟩ : Addr).add j) = some u := by
  rw [add_lit0]
  exact blk_cell (heap_alloc_new w _) (by simpa using h)
theorem cells_new' {w : World} {a : Nat} (ha : w.heap.size = a) (cs : List Value) (T : TypeId) (j : Nat) (u : Value) (h : cs[j]? = some u) : (w.alloc (.cells cs.toArray T)).cell? ((⟨a, 0, none⟩ : Addr).add j) = some u := by
  subst ha; exact cells_new w cs T j u h
theorem own_base' {w : World} {base : Nat} {e : TypeId} {size n : Nat} {v : Value} {xs : List Value} (h : w.ownsRow base e size v n xs) (k : Nat) (hk : v.ownBlock = some k) : base ≤ k := (h.lt k hk).1
theorem _root_.Go.World.ownsRow.mono_base {w : World} {base base' : Nat} {e : TypeId} {size n : Nat} {v : Value} {xs : List Value} (h : w.ownsRow base e size v n xs) (hb : base' ≤ base) : w.ownsRow base' e size v n xs := by
  obtain ⟨h1, h2⟩ := h
  refine ⟨h1, ?_⟩
  rcases h2 with h2 | ⟨g, cap, cur, h3, h4, h5⟩
  · exact .inl h2
  · exact .inr ⟨g, cap, cur, h3, by omega, h5⟩
theorem drewN_heap (w : World) (n : Nat) : (w.drewN n).heap = w.heap := rfl
theorem drew_heap (w : World) : w.drew.heap = w.heap := rfl
end Go.Proofs.YtdbkbkopcnkgcaaGreat

open Go Go.RowKit
namespace Go.Proofs.YtdbkbkopcnkgcaaGreat

theorem blk_new' {w : World} {a : Nat} (ha : w.heap.size = a) (o : Obj) : (w.alloc o).heap[a]? = some o := by subst ha; exact heap_alloc_new w o
theorem blk_new1 {w : World} {a : Nat} (ha : w.heap.size = a) (o o1 : Obj) : ((w.alloc o).alloc o1).heap[a]? = some o := by
  rw [Below.heap_alloc _ _ _ (by rw [World.size_alloc]; omega)]; exact blk_new' ha o
theorem blk_new2 {w : World} {a : Nat} (ha : w.heap.size = a) (o o1 o2 : Obj) : (((w.alloc o).alloc o1).alloc o2).heap[a]? = some o := by
  rw [Below.heap_alloc _ _ _ (by rw [World.size_alloc, World.size_alloc]; omega)]; exact blk_new1 ha o o1
end Go.Proofs.YtdbkbkopcnkgcaaGreat

open Go Go.RowKit
namespace Go.Proofs.YtdbkbkopcnkgcaaGreat

/-- a world in which nothing of w has turned -/
structure Behind (w : World) where
  w' : World
  h : Below w.heap.size w w'

instance (w : World) : Inhabited (Behind w) := ⟨⟨w, Below.refl _ _⟩⟩

/-- a region that draws its order, whose operations read and whose calls leave what was there: walked once, in the order of the text -/
theorem wp_region_behind {P : Program} {id : Nat} {Q : Exit → Act → World → Prop} {a : Act} {w : World} {l : List Oper} (hm : P.follows .mixedOrders = true) (hB : Region.lexB .any l.toArray = true)
    (h : wpQuiet P l.toArray (fun w' => ∃ p : Behind w, w' = p.w') (fun a' => ∀ w', (∃ p : Behind w, w' = p.w') → Q .normal a' w') l a) : (Code.region id l.toArray true).wp P Q a w :=
  wp_region_quiet (C := fun w' => ∃ p : Behind w, w' = p.w') hm hB ⟨⟨_, (Below.refl _ _).drew⟩, rfl⟩ (by simpa using h)

theorem Calls.behind {P : Program} {f : FuncId} {args : Array Value} {w : World} {p : Behind w} {v : Value} (h : Calls P f args p.w' fun e w'' => e = .returned v ∧ Below p.w'.heap.size p.w' w'') : Calls P f args p.w' fun e w'' => e = .returned v ∧ ∃ p2 : Behind w, w'' = p2.w' :=
  h.mono fun _ w'' ⟨he, hb⟩ => ⟨he, ⟨w'', p.h.trans (hb.mono p.h.size)⟩, rfl⟩
theorem Calls.behind_same {P : Program} {f : FuncId} {args : Array Value} {w : World} {p : Behind w} {v : Value} (h : Calls P f args p.w' fun e w'' => e = .returned v ∧ p.w' = w'') : Calls P f args p.w' fun e w'' => e = .returned v ∧ ∃ p2 : Behind w, w'' = p2.w' :=
  h.mono fun _ _ ⟨he, hb⟩ => ⟨he, p, hb.symm⟩
/-- an old cell, in every such world -/
theorem cell_behind {w : World} {b i : Nat} {v : Value} (h : w.cell? ⟨b, i, none⟩ = some v) (p : Behind w) : p.w'.cell? ⟨b, i, none⟩ = some v := (p.h.cell (p := ⟨b, i, none⟩) (World.block_lt_of_cell? w _ h)).trans h
end Go.Proofs.YtdbkbkopcnkgcaaGreat
