import Derived.Test.YtdbkbkopcnkgcaaGreatCopy
import Derived.Test.YtdbkbkopcnkgcaaGreatOwn
open Go Go.RowKit
namespace Go.Proofs.YtdbkbkopcnkgcaaGreat

/-! ### slices.Clone and slices.Reverse of integers -/
section
variable {α : Type}
/-- the first and the last k are turned round -/
def revF (d : α) (L : List α) (k : Nat) : List α := (List.range L.length).map fun z => if z < k ∨ L.length ≤ z + k then L.getD (L.length - 1 - z) d else L.getD z d
theorem revF_len {d : α} {L : List α} {k : Nat} : (revF d L k).length = L.length := by unfold revF; simp
theorem revF_get {d : α} {L : List α} {k z : Nat} (h : z < L.length) : (revF d L k)[z]? = some (if z < k ∨ L.length ≤ z + k then L.getD (L.length - 1 - z) d else L.getD z d) := by
  unfold revF
  rw [List.getElem?_map, List.getElem?_range h]; rfl
theorem revF_zero {d : α} {L : List α} : revF d L 0 = L := by
  refine List.ext_getElem? fun z => ?_
  by_cases h : z < L.length
  · rw [revF_get h, if_neg (by omega), List.getD_eq_getElem?_getD, List.getElem?_eq_getElem h]; rfl
  · rw [List.getElem?_eq_none (by rw [revF_len]; omega), List.getElem?_eq_none (by omega)]
theorem revF_end {d : α} {L : List α} {k : Nat} (hk : L.length ≤ 2 * k + 1) : revF d L k = L.reverse := by
  refine List.ext_getElem? fun z => ?_
  by_cases h : z < L.length
  · rw [revF_get h, List.getElem?_reverse h, List.getElem?_eq_getElem (by omega)]
    congr 1
    split
    · rw [List.getD_eq_getElem?_getD, List.getElem?_eq_getElem (by omega)]; rfl
    · have : z = L.length - 1 - z := by omega
      rw [List.getD_eq_getElem?_getD, List.getElem?_eq_getElem h]
      show L[z] = _
      congr 1
  · rw [List.getElem?_eq_none (by rw [revF_len]; omega), List.getElem?_eq_none (by rw [List.length_reverse]; omega)]
theorem revF_step {d : α} {L : List α} {k m : Nat} (hm : m = L.length - 1 - k) (hk : k < m) : ((revF d L k).set k (L.getD m d)).set m (L.getD k d) = revF d L (k + 1) := by
  refine List.ext_getElem? fun z => ?_
  rw [List.getElem?_set, List.length_set, List.getElem?_set, revF_len]
  by_cases h : z < L.length
  · rw [revF_get h, revF_get h]
    by_cases e1 : m = z
    · rw [if_pos e1, if_pos (by omega), if_pos (by omega)]
      rw [show L.length - 1 - z = k by omega]
    · rw [if_neg e1]
      by_cases e2 : k = z
      · rw [if_pos e2, if_pos (by omega), if_pos (by omega)]
        rw [show L.length - 1 - z = m by omega]
      · rw [if_neg e2]
        congr 1
        by_cases h1 : z < k ∨ L.length ≤ z + k
        · rw [if_pos h1, if_pos (by omega)]
        · rw [if_neg h1, if_neg (by omega)]
  · rw [if_neg (by omega), if_neg (by omega), List.getElem?_eq_none (by rw [revF_len]; omega), List.getElem?_eq_none (by rw [revF_len]; omega)]
end

/-- integers that lie at the beginning of a block -/
def IntsAt (w : World) (b : Nat) (L : List Int) : Prop := ∃ cs, w.heap[b]? = some (.cells cs 3 (0, 0)) ∧ ∀ z (h : z < L.length), cs[z]? = some (.int .i64 L[z])
theorem IntsAt.cell {w : World} {b : Nat} {L : List Int} (h : IntsAt w b L) {z : Nat} (hz : z < L.length) : w.cell? ⟨b, z, none⟩ = some (.int .i64 L[z]) := by
  obtain ⟨cs, h1, h2⟩ := h
  exact blk_cell h1 (h2 z hz)
theorem IntsAt.free {w : World} {b : Nat} {L : List Int} (h : IntsAt w b L) (z : Nat) : w.frozen? ⟨b, z, none⟩ = false := by
  obtain ⟨cs, h1, _⟩ := h
  exact blk_free h1
theorem IntsAt.set {w : World} {b : Nat} {L : List Int} (h : IntsAt w b L) (z : Nat) (v : Int) : IntsAt (w.setCell ⟨b, z, none⟩ (.int .i64 v)) b (L.set z v) := by
  obtain ⟨cs, h1, h2⟩ := h
  refine ⟨_, heap_set h1 _ _, fun y hy => ?_⟩
  rw [List.length_set] at hy
  rw [List.getElem_set, Array.getElem?_setIfInBounds]
  by_cases e : z = y
  · subst e
    rw [if_pos rfl, if_pos rfl]
    have := h2 z hy
    have hlt : z < cs.size := (Array.getElem?_eq_some_iff.1 this).1
    rw [if_pos hlt]
  · rw [if_neg e, if_neg e]
    exact h2 y hy
theorem IntsAt.same {w w' : World} {b : Nat} {L : List Int} (h : IntsAt w b L) (e : w'.heap[b]? = w.heap[b]?) : IntsAt w' b L := by
  obtain ⟨cs, h1, h2⟩ := h
  exact ⟨cs, e.trans h1, h2⟩
theorem IntsAt.isSl {w : World} {b : Nat} {L : List Int} (h : IntsAt w b L) (F : Nat → Prop) (hF : F b) (c : Nat) (hl : L.length ≤ 9223372036854775807) : IsSl Elt.int F w (.slice (some ⟨b, 0, none⟩) L.length c) L := by
  refine ⟨some ⟨b, 0, none⟩, c, rfl, hl, fun k hk => ?_⟩
  have h1 := h.cell hk
  refine ⟨b, 0, rfl, hF, cell_lt h1, hF, ?_⟩
  show w.cell? ⟨b, 0 + k * 1, none⟩ = _
  rw [Nat.zero_add, Nat.mul_one]
  exact h1

/-- symbols that lie at the beginning of a block -/
def SymsAt (w : World) (b : Nat) (L : List Sym) : Prop := ∃ cs, w.heap[b]? = some (.cells cs 70 (0, 0)) ∧ ∀ z (h : z < L.length), cs[z * 2]? = some (.bool L[z].t) ∧ cs[z * 2 + 1]? = some (.int .i64 L[z].n)
theorem SymsAt.cell {w : World} {b : Nat} {L : List Sym} (h : SymsAt w b L) {z : Nat} (hz : z < L.length) : w.cell? ⟨b, z * 2, none⟩ = some (.bool L[z].t) ∧ w.cell? ⟨b, z * 2 + 1, none⟩ = some (.int .i64 L[z].n) := by
  obtain ⟨cs, h1, h2⟩ := h
  exact ⟨blk_cell h1 (h2 z hz).1, blk_cell h1 (h2 z hz).2⟩
theorem SymsAt.free {w : World} {b : Nat} {L : List Sym} (h : SymsAt w b L) (z : Nat) : w.frozen? ⟨b, z, none⟩ = false := by
  obtain ⟨cs, h1, _⟩ := h
  exact blk_free h1
theorem SymsAt.set {w : World} {b : Nat} {L : List Sym} (h : SymsAt w b L) (z : Nat) (y : Sym) : SymsAt ((w.setCell ⟨b, z * 2, none⟩ (.bool y.t)).setCell ⟨b, z * 2 + 1, none⟩ (.int .i64 y.n)) b (L.set z y) := by
  obtain ⟨cs, h1, h2⟩ := h
  refine ⟨_, heap_set (heap_set h1 _ _) _ _, fun x hx => ?_⟩
  rw [List.length_set] at hx
  obtain ⟨k1, k2⟩ := h2 x hx
  have l1 : x * 2 < cs.size := (Array.getElem?_eq_some_iff.1 k1).1
  have l2 : x * 2 + 1 < cs.size := (Array.getElem?_eq_some_iff.1 k2).1
  rw [List.getElem_set]
  simp only [Array.getElem?_setIfInBounds, Array.size_setIfInBounds]
  by_cases e : z = x
  · subst e
    rw [if_pos rfl, if_neg (by omega), if_pos rfl, if_pos l1, if_pos rfl, if_pos l2]
    exact ⟨rfl, rfl⟩
  · rw [if_neg e, if_neg (by omega), if_neg (by omega), if_neg (by omega), if_neg (by omega)]
    exact ⟨k1, k2⟩
theorem SymsAt.same {w w' : World} {b : Nat} {L : List Sym} (h : SymsAt w b L) (e : w'.heap[b]? = w.heap[b]?) : SymsAt w' b L := by
  obtain ⟨cs, h1, h2⟩ := h
  exact ⟨cs, e.trans h1, h2⟩
theorem SymsAt.isSl {w : World} {b : Nat} {L : List Sym} (h : SymsAt w b L) (F : Nat → Prop) (hF : F b) (c : Nat) (hl : L.length ≤ 9223372036854775807) : IsSl Elt.sym F w (.slice (some ⟨b, 0, none⟩) L.length c) L := by
  refine ⟨some ⟨b, 0, none⟩, c, rfl, hl, fun k hk => ?_⟩
  obtain ⟨h1, h2⟩ := h.cell hk
  refine ⟨b, 0, rfl, hF, cell_lt h1, ⟨hF, ?_⟩, ⟨hF, ?_⟩⟩
  · show w.cell? ⟨b, 0 + k * 2, none⟩ = _
    rw [Nat.zero_add]; exact h1
  · show w.cell? ⟨b, 0 + k * 2 + 1, none⟩ = _
    rw [Nat.zero_add]; exact h2

theorem Tryz.infoIntR : (Tryz.prog.info? 3).map (fun i => (i.zero, i.size, i.bytes)) = some (some (.int .i64 0), 1, 8) := by kernel_rfl
theorem sl_ints {F : Nat → Prop} {w : World} {A : Option Addr} {n c : Nat} {l : List Int} (h : IsSl Elt.int F w (.slice A n c) l) (a : Addr) (ha : A = some a) (j : Nat) (u : Value) (hj : (l.map (Value.int .i64))[j]? = some u) : w.cell? (a.add j) = some u := by
  rw [List.getElem?_map] at hj
  cases hl : l[j]? with
  | none => rw [hl] at hj; cases hj
  | some v =>
    rw [hl] at hj
    injection hj with hj
    obtain ⟨hjl, hv⟩ := List.getElem?_eq_some_iff.1 hl
    obtain ⟨b, o, rfl, hF, hlt, hc⟩ := h.oneAt j hjl
    injection ha with ha
    subst ha
    have e : (⟨b, o, none⟩ : Addr).add j = ⟨b, o + j, none⟩ := by unfold Addr.add; split <;> simp_all
    rw [e, hc, hv, ← hj]
theorem ints_one (l : List Int) : ∀ u ∈ l.map (Value.int .i64), u.oneCell' = true := by
  intro u hu
  obtain ⟨v, _, rfl⟩ := List.mem_map.1 hu
  rfl
end Go.Proofs.YtdbkbkopcnkgcaaGreat
