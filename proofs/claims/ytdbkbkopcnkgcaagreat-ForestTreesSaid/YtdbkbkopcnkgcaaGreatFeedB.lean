import Derived.Test.YtdbkbkopcnkgcaaGreatMeanD
import Derived.Test.YtdbkbkopcnkgcaaGreatIter
import Derived.Maps.AppendAt
import Derived.Deep.AppendLies
open Go Go.RowKit
open Go.ChangeMaps (setBlock)
namespace Go.Proofs.YtdbkbkopcnkgcaaGreat

abbrev Item := Nat × Nat × Nat
def itemV (x : Item) : Value := .agg #[.int .i64 x.1, .int .i64 x.2.1, .int .i64 x.2.2]
theorem itemV_inj (a b : Item) (h : itemV a = itemV b) : a = b := by
  obtain ⟨a1, a2, a3⟩ := a
  obtain ⟨b1, b2, b3⟩ := b
  simp [itemV] at h
  obtain ⟨h1, h2, h3⟩ := h
  ext <;> simp <;> omega

theorem Tryz.chkInt (b : Bool) (n : Nat) (x : Int) (w : World) : (Instr.checkKey b (n + 1) 3 (.int .i64 x)).run Tryz.prog w = .ok () w := by
  simp [Instr.checkKey, run_underlying Tryz.underlying3]
theorem bits3 (n : Nat) (x y z : Int) : Instr.sameBits (n + 1) (.agg #[.int .i64 x, .int .i64 y, .int .i64 z]) (.agg #[.int .i64 x, .int .i64 y, .int .i64 z]) = true := by
  simp [Instr.sameBits]
theorem Tryz.fieldsSym : Tryz.prog.fieldsOf 70 = #[{ name := "Term", type := 4, offset := 0, embedded := false, tag := "", pkgPath := "", byteOffset := 0 }, { name := "N", type := 3, offset := 1, embedded := false, tag := "", pkgPath := "", byteOffset := 8 }] := by
  simp only [Program.fieldsOf, Tryz.underlying70]
theorem Tryz.symEq (a b : Sym) (w : World) : (Op.equal 70 (.agg #[.bool a.t, .int .i64 a.n]) (.agg #[.bool b.t, .int .i64 b.n])).run Tryz.prog w = .ok (decide (a = b)) w := by
  obtain ⟨at_, an⟩ := a
  obtain ⟨bt, bn⟩ := b
  unfold Op.equal Op.maxDepth
  rw [run_equalIn_struct (P := Tryz.prog) w 9999 70 _ _ (by rw [Tryz.fieldsSym]; exact Tryz.underlying70) (by kernel_rfl), Tryz.fieldsSym]
  by_cases h1 : at_ = bt <;> by_cases h2 : an = bn <;> simp [Op.eqFields, h1, h2, go_sem]

theorem Tryz.zeroBool (w : World) : (zeroValue 4).run Tryz.prog w = .ok (.bool false) w := by kernel_rfl

/-- a map that is a set of items -/
def SetIs (w : World) (r : Nat) (S : Item → Prop) : Prop := ∃ l : List (Item × Bool), IsMap itemV Value.bool w r l ∧ (∀ p ∈ l, p.2 = true) ∧ ∀ x, x ∈ l.map (·.1) ↔ S x

def OkItem (g : Gram) (m : Nat) (x : Item) : Prop := ∃ r, g.rules[x.1]? = some r ∧ x.2.1 ≤ r.r.length ∧ x.2.2 ≤ m

theorem SetIs.same {w w' : World} {r : Nat} {S : Item → Prop} (h : SetIs w r S) (hs : w'.heap[r]? = w.heap[r]?) : SetIs w' r S := by
  obtain ⟨l, hm, rest⟩ := h
  exact ⟨l, hm.same hs, rest⟩
theorem SetIs.lt {w : World} {r : Nat} {S : Item → Prop} (h : SetIs w r S) : r < w.heap.size := by
  obtain ⟨l, hm, rest⟩ := h
  exact hm.lt

end Go.Proofs.YtdbkbkopcnkgcaaGreat

open Go Go.RowKit
open Go.ChangeMaps (setBlock)
namespace Go.Proofs.YtdbkbkopcnkgcaaGreat

def itemCells (l : List Item) : List Value := l.flatMap fun y => [.int .i64 y.1, .int .i64 y.2.1, .int .i64 y.2.2]
theorem itemCells_snoc (l : List Item) (y : Item) : itemCells l ++ [.int .i64 y.1, .int .i64 y.2.1, .int .i64 y.2.2] = itemCells (l ++ [y]) := by simp [itemCells]
theorem itemCells_length (l : List Item) : (itemCells l).length = l.length * 3 := by
  induction l with
  | nil => rfl
  | cons a l ih => simp only [itemCells, List.flatMap_cons, List.length_append] at *; rw [ih]; simp; omega
theorem itemCells_get : ∀ (l : List Item) (k : Nat) (h : k < l.length), (itemCells l)[k * 3]? = some (.int .i64 l[k].1) ∧ (itemCells l)[k * 3 + 1]? = some (.int .i64 l[k].2.1) ∧ (itemCells l)[k * 3 + 2]? = some (.int .i64 l[k].2.2)
  | [], k, h => by simp at h
  | a :: l, 0, h => by simp [itemCells]
  | a :: l, k + 1, h => by
    have := itemCells_get l k (by simpa using h)
    have e : itemCells (a :: l) = [.int .i64 a.1, .int .i64 a.2.1, .int .i64 a.2.2] ++ itemCells l := by simp [itemCells]
    rw [e, show (k + 1) * 3 = k * 3 + 3 by omega]
    refine ⟨?_, ?_, ?_⟩
    · rw [List.getElem?_append_right (by simp), show k * 3 + 3 - ([.int .i64 a.1, .int .i64 a.2.1, .int .i64 a.2.2] : List Value).length = k * 3 by simp]; simpa using this.1
    · rw [List.getElem?_append_right (by simp), show k * 3 + 3 + 1 - ([.int .i64 a.1, .int .i64 a.2.1, .int .i64 a.2.2] : List Value).length = k * 3 + 1 by simp]; simpa using this.2.1
    · rw [List.getElem?_append_right (by simp), show k * 3 + 3 + 2 - ([.int .i64 a.1, .int .i64 a.2.1, .int .i64 a.2.2] : List Value).length = k * 3 + 2 by simp]; simpa using this.2.2

/-- what the code calls following an item -/
def Fol (g : Gram) (gd : List Bool) (S : Nat → Item → Prop) (k : Nat) (x y : Item) : Prop :=
  ∃ r, g.rules[x.1]? = some r ∧ ((x.2.1 = r.r.length ∧ ∃ m e h r', S x.2.2 (m, e, h) ∧ g.rules[m]? = some r' ∧ r'.r[e]? = some ⟨false, r.l⟩ ∧ y = (m, e + 1, h)) ∨
    (∃ n, r.r[x.2.1]? = some ⟨false, n⟩ ∧ ∃ m r', g.rules[m]? = some r' ∧ r'.l = n ∧ gd[m]? = some true ∧ y = (m, 0, k)))

section
variable {D : Nat → Prop} {bf lim : Nat} {g : Gram} {gd : List Bool} {x : List Int} {S : Nat → Item → Prop} {A : Option Addr} {cr : Nat} {B : Option Addr} {cg : Nat} {C : Option Addr} {cw : Nat} {E : Option Addr} {cs : Nat} {rs : List Nat}

theorem key_bool (l : List (Item × Bool)) (h : ∀ p ∈ l, p.2 = true) (y : Item) : alook l y = if y ∈ l.map (·.1) then some true else none := by
  split
  · rename_i hy
    cases hl : alook l y with
    | none => exact absurd hy (alook_none.1 hl)
    | some v =>
      have : v = true := h _ (alook_some hl)
      rw [this]
  · rename_i hy
    exact alook_none.2 hy

end
end Go.Proofs.YtdbkbkopcnkgcaaGreat
