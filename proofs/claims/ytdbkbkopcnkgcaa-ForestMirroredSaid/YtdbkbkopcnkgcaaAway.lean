import Derived.Test.YtdbkbkopcnkgcaaOwn
open Go Go.RowKit
namespace Go.Proofs.Ytdbkbkopcnkgcaa

/-- of the first n blocks only those of F have turned -/
structure Away (n : Nat) (F : Nat → Prop) (w w' : World) : Prop where
  os : w'.os = w.os
  tape : w'.tape = w.tape
  output : w'.output = w.output
  size : w.heap.size ≤ w'.heap.size
  block : ∀ b, b < n → ¬ F b → w'.heap[b]? = w.heap[b]?

theorem Away.refl (n : Nat) (F : Nat → Prop) (w : World) : Away n F w w := ⟨rfl, rfl, rfl, Nat.le_refl _, fun _ _ _ => rfl⟩
theorem Away.trans {n : Nat} {F : Nat → Prop} {a b c : World} (h : Away n F a b) (k : Away n F b c) : Away n F a c :=
  ⟨k.os.trans h.os, k.tape.trans h.tape, k.output.trans h.output, Nat.le_trans h.size k.size, fun j hj hf => (k.block j hj hf).trans (h.block j hj hf)⟩
theorem Away.mono {n m : Nat} {F G : Nat → Prop} {a b : World} (h : Away n F a b) (hm : m ≤ n) (hF : ∀ j, j < m → F j → G j) : Away m G a b :=
  ⟨h.os, h.tape, h.output, h.size, fun j hj hf => h.block j (by omega) fun hf2 => hf (hF j hj hf2)⟩
theorem Away.ofBelow {n : Nat} {F : Nat → Prop} {a b : World} (h : Below n a b) : Away n F a b := ⟨h.os, h.tape, h.output, h.size, fun j hj _ => h.block j hj⟩
theorem Away.below {n : Nat} {F : Nat → Prop} {a b : World} (h : Away n F a b) (hF : ∀ j, j < n → ¬ F j) : Below n a b := ⟨h.os, h.tape, h.output, h.size, fun j hj => h.block j hj (hF j hj)⟩
theorem Away.grown {n : Nat} {F : Nat → Prop} {a b : World} {row : Option Nat} (h : a.grownBy b row) (hn : n ≤ a.heap.size) (hr : ∀ k, row = some k → F k ∨ n ≤ k) : Away n F a b :=
  ⟨h.os, h.tape, h.output, h.size, fun j hj hf => h.block j (by omega) fun e => by rcases hr j e.symm with h1 | h1; exact hf h1; omega⟩
theorem Away.setCell {n : Nat} {F : Nat → Prop} (w : World) (b i : Nat) (v : Value) (hb : F b ∨ n ≤ b) : Away n F w (w.setCell ⟨b, i, none⟩ v) :=
  ⟨rfl, rfl, rfl, by rw [size_setCell]; exact Nat.le_refl _, fun j hj hf => heap_set_ne (fun e => by subst e; rcases hb with hb | hb; exact hf hb; omega) _ _⟩

end Go.Proofs.Ytdbkbkopcnkgcaa
