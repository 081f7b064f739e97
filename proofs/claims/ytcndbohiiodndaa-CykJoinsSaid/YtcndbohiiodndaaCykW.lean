import Derived.Test.YtcndbohiiodndaaCykQ
import Derived.Test.YtcndbohiiodndaaBuild
open Go Go.RowKit
namespace Go.Proofs.Ytcndbohiiodndaa

/-! ### ends out of the chart -/
def ebits (f : Nat → Bool) (lo : Nat) : Nat → Nat
  | 0 => 0
  | k + 1 => if lo ≤ k ∧ f k = true then ebits f lo k ||| 2 ^ k else ebits f lo k
theorem ebits_bit (f : Nat → Bool) (lo j : Nat) : ∀ k, (ebits f lo k).testBit j = true ↔ lo ≤ j ∧ j < k ∧ f j = true
  | 0 => by simp [ebits]
  | k + 1 => by
    unfold ebits
    by_cases h : lo ≤ k ∧ f k = true
    · rw [if_pos h, Nat.testBit_or, Bool.or_eq_true, ebits_bit f lo j k, Nat.testBit_two_pow]
      constructor
      · rintro (⟨h1, h2, h3⟩ | h2)
        · exact ⟨h1, by omega, h3⟩
        · have : k = j := by simpa using h2
          subst this; exact ⟨h.1, by omega, h.2⟩
      · rintro ⟨h1, h2, h3⟩
        by_cases e : k = j
        · right; simp [e]
        · exact .inl ⟨h1, by omega, h3⟩
    · rw [if_neg h, ebits_bit f lo j k]
      constructor
      · rintro ⟨h1, h2, h3⟩; exact ⟨h1, by omega, h3⟩
      · rintro ⟨h1, h2, h3⟩
        by_cases e : j = k
        · subst e; exact absurd ⟨h1, h3⟩ h
        · exact ⟨h1, by omega, h3⟩
theorem ebits_lt (f : Nat → Bool) (lo : Nat) : ∀ k, k ≤ 13 → ebits f lo k < 2 ^ 32
  | 0, _ => by simp [ebits]
  | k + 1, h => by
    unfold ebits
    split
    · exact or_lt (ebits_lt f lo k (by omega)) (pow_lt13 (by omega))
    · exact ebits_lt f lo k (by omega)
theorem ebits_start (f : Nat → Bool) (lo : Nat) : ∀ k, k ≤ lo → ebits f lo k = 0
  | 0, _ => rfl
  | k + 1, h => by unfold ebits; rw [if_neg (by omega)]; exact ebits_start f lo k (by omega)

/-- the entries while row n is filled, at its place i, as far as j -/
def cur (K : Nat → Nat → Nat → Bool) (L n i j : Nat) : Nat → Nat → Nat := fun a b => if a < n ∨ (a = n ∧ b < i) then ebits (fun j => K b j a) b L else if a = n ∧ b = i then ebits (fun j => K b j a) b j else 0
theorem cur_place (K : Nat → Nat → Nat → Bool) (L n i : Nat) : cur K L n i L = cur K L n (i + 1) (i + 1) := by
  funext a b
  unfold cur
  by_cases h1 : a < n ∨ (a = n ∧ b < i)
  · rw [if_pos h1, if_pos (by omega)]
  · rw [if_neg h1]
    by_cases h2 : a = n ∧ b = i
    · rw [if_pos h2, if_pos (by omega)]
    · rw [if_neg h2, if_neg (by omega)]
      by_cases h3 : a = n ∧ b = i + 1
      · rw [if_pos h3, ebits_start _ _ _ (by omega)]
      · rw [if_neg h3]
theorem cur_row (K : Nat → Nat → Nat → Bool) (L n j a b : Nat) (hb : b < L) : cur K L n L j a b = cur K L (n + 1) 0 0 a b := by
  unfold cur
  by_cases h1 : a < n ∨ (a = n ∧ b < L)
  · rw [if_pos h1, if_pos (by omega)]
  · rw [if_neg h1, if_neg (by omega), if_neg (by omega)]
    by_cases h3 : a = n + 1 ∧ b = 0
    · rw [if_pos h3]; rfl
    · rw [if_neg h3]
theorem cur_fresh (K : Nat → Nat → Nat → Bool) (L n b : Nat) : cur K L n 0 0 n b = 0 := by
  unfold cur
  rw [if_neg (by omega)]
  by_cases h : n = n ∧ b = 0
  · rw [if_pos h]; rfl
  · rw [if_neg h]
theorem cur_at (K : Nat → Nat → Nat → Bool) (L n i j : Nat) : cur K L n i j n i = ebits (fun j => K i j n) i j := by
  unfold cur
  rw [if_neg (by omega), if_pos ⟨rfl, rfl⟩]
theorem cur_no {K : Nat → Nat → Nat → Bool} {L n i j : Nat} (h : K i j n = false) : cur K L n i (j + 1) = cur K L n i j := by
  funext a b
  unfold cur
  by_cases h1 : a < n ∨ (a = n ∧ b < i)
  · rw [if_pos h1, if_pos h1]
  · rw [if_neg h1, if_neg h1]
    by_cases h2 : a = n ∧ b = i
    · obtain ⟨rfl, rfl⟩ := h2
      rw [if_pos ⟨rfl, rfl⟩, if_pos ⟨rfl, rfl⟩]
      conv => lhs; unfold ebits
      rw [if_neg (by simp [h])]
    · rw [if_neg h2, if_neg h2]
theorem cur_yes {K : Nat → Nat → Nat → Bool} {L n i j : Nat} (hij : i ≤ j) (h : K i j n = true) : cur K L n i (j + 1) = fun a b => if a = n ∧ b = i then cur K L n i j n i ||| 2 ^ j else cur K L n i j a b := by
  funext a b
  by_cases h2 : a = n ∧ b = i
  · obtain ⟨rfl, rfl⟩ := h2
    rw [if_pos ⟨rfl, rfl⟩, cur_at, cur_at]
    conv => lhs; unfold ebits
    rw [if_pos ⟨hij, h⟩]
  · rw [if_neg h2]
    unfold cur
    by_cases h1 : a < n ∨ (a = n ∧ b < i)
    · rw [if_pos h1, if_pos h1]
    · rw [if_neg h1, if_neg h1, if_neg h2, if_neg h2]

def matOf (E : Nat → Nat → Nat) (L N : Nat) : List (List Nat) := (List.range N).map fun n => (List.range L).map fun i => E n i
theorem entry_matOf (E : Nat → Nat → Nat) (L N : Nat) (n : Int) (i : Nat) : entry (matOf E L N) n i = if n.toNat < N ∧ i < L then E n.toNat i else 0 := by
  unfold entry matOf
  rw [List.getD_eq_getElem?_getD, List.getD_eq_getElem?_getD]
  by_cases h1 : n.toNat < N
  · by_cases h2 : i < L
    · simp [h1, h2]
    · simp [h1, h2]
  · simp [h1]

/-- ends that hold just what is derived are the word's -/
theorem isM_of {g : Gram} {x : List Int} {M : List (List Nat)} (hv : Valid g) (hs : MShape g x M) (h : ∀ n i j, 0 ≤ n → ((entry M n i).testBit j = true ↔ Drv g x [⟨false, n⟩] i j)) : IsM g x M := by
  have hso : Sound g x M := fun n i j hn hb => (h n i j hn).1 hb
  refine ⟨hs, hso, fun r hr i hi j hj => ?_⟩
  have hok := hv.ok r hr
  have hsh : j ≤ x.length := seq_short (sound_short hso (entry_neg M)) r.r (2 ^ i) j (fun i' hi' => by
    rw [Nat.testBit_two_pow] at hi'
    have : i = i' := by simpa using hi'
    omega) hj
  obtain ⟨i', hi', hd⟩ := seq_drv hso r.r (fun y hy => (hok.syms y hy).n0) _ j hj hsh
  rw [Nat.testBit_two_pow] at hi'
  have : i = i' := by simpa using hi'
  subst this
  exact (h r.l i j hok.l0).2 (.non hr rfl hd (.nil _ hsh))

theorem drv_nons {g : Gram} {x : List Int} (hv : Valid g) {n : Int} {i j : Nat} (h : Drv g x [⟨false, n⟩] i j) : n < g.nons := by
  generalize hl : [(⟨false, n⟩ : Sym)] = l at h
  cases h with
  | nil => cases hl
  | term => injection hl with h1; injection h1 with h1; cases h1
  | non hr hn _ _ =>
    injection hl with h1
    injection h1 with _ h1
    subst h1
    have := (hv.ok _ hr).l1
    omega

theorem isM_chart {g : Gram} {x : List Int} {K : Nat → Nat → Nat → Bool} (hv : Valid g) (hm : x.length ≤ 12) (N : Nat) (hN : g.nons = N) (hK : ∀ (n a b : Nat), K a b n = true ↔ Drv g x [⟨false, (n : Int)⟩] a b) : IsM g x (matOf (cur K (x.length + 1) N 0 0) (x.length + 1) N) := by
  have hE : ∀ n i, n < N → cur K (x.length + 1) N 0 0 n i = ebits (fun j => K i j n) i (x.length + 1) := fun n i hn => by
    unfold cur; rw [if_pos (.inl hn)]
  refine isM_of hv ⟨by simp [matOf, hN], fun r hr => ?_, fun r hr v hv => ?_⟩ fun n i j hn => ?_
  · unfold matOf at hr
    obtain ⟨n, _, rfl⟩ := List.mem_map.1 hr
    simp
  · unfold matOf at hr
    obtain ⟨n, hn, rfl⟩ := List.mem_map.1 hr
    obtain ⟨i, _, rfl⟩ := List.mem_map.1 hv
    rw [hE n i (by simpa using hn)]
    exact ebits_lt _ _ _ (by omega)
  · rw [entry_matOf]
    constructor
    · intro hb
      split at hb
      · rename_i hh
        rw [hE _ _ hh.1, ebits_bit] at hb
        have := (hK n.toNat i j).1 hb.2.2
        rwa [Int.toNat_of_nonneg hn] at this
      · simp at hb
    · intro hd
      have hlt := drv_nons hv hd
      have hle := drv_le hd
      rw [if_pos ⟨by omega, by omega⟩, hE _ _ (by omega), ebits_bit]
      exact ⟨hle.1, by omega, (hK n.toNat i j).2 (by rwa [Int.toNat_of_nonneg hn])⟩

/-- the rows of ends that the chart's bits are laid into -/
structure EndsSt (W wr : World) (L N k : Nat) (E : Nat → Nat → Nat) : Prop where
  below : Below W.heap.size W wr
  of_ : wr.heap[W.heap.size]? = some (.cells ((List.range N).map (fun n => if n < k then (.slice (some ⟨W.heap.size + 1 + n, 0, none⟩) L L : Value) else .slice none 0 0)).toArray 195 (0, 0))
  row : ∀ n, n < k → wr.heap[W.heap.size + 1 + n]? = some (.cells ((List.range L).map (fun i => Value.int .u32 (E n i : Nat))).toArray 196 (0, 0))
  size : wr.heap.size = W.heap.size + 1 + k

section
variable {W wr : World} {L N k : Nat} {E E' : Nat → Nat → Nat}
theorem EndsSt.start (W : World) (L N : Nat) (E : Nat → Nat → Nat) : EndsSt W (W.alloc (.cells (madeCells #[.slice none 0 0] N) 195)) L N 0 E := by
  refine ⟨below1 _ _, ?_, fun n hn => by omega, World.size_alloc _ _⟩
  rw [heap_alloc_new, made_one]
  congr 2
  apply Array.ext'
  simp only [Nat.not_lt_zero, if_false]
  apply List.ext_getElem <;> simp
theorem EndsSt.congr (h : EndsSt W wr L N k E) (he : ∀ n, n < k → ∀ i, i < L → E n i = E' n i) : EndsSt W wr L N k E' := by
  refine ⟨h.below, h.of_, fun n hn => ?_, h.size⟩
  rw [h.row n hn]
  congr 3
  apply List.map_congr_left
  intro i hi
  rw [he n hn i (by simpa using hi)]
theorem EndsSt.drewN (h : EndsSt W wr L N k E) (q : Nat) : EndsSt W (wr.drewN q) L N k E := ⟨below_drewN h.below q, h.of_, h.row, h.size⟩
theorem EndsSt.more (h : EndsSt W wr L N k E) (hk : k < N) (h0 : ∀ i, i < L → E k i = 0) :
    EndsSt W ((wr.alloc (.cells (madeCells #[.int .u32 0] L) 196)).setCell ⟨W.heap.size, k, none⟩ (.slice (some ⟨wr.heap.size, 0, none⟩) L L)) L N (k + 1) E := by
  have hs := h.size
  have hold : ∀ b, b < wr.heap.size → (wr.alloc (.cells (madeCells #[.int .u32 0] L) 196)).heap[b]? = wr.heap[b]? := fun b hb => Below.heap_alloc wr _ b hb
  refine ⟨(h.below.alloc h.below.size _).setCell (Nat.le_refl _) _, ?_, fun n hn => ?_, by rw [size_setCell, World.size_alloc, hs]; omega⟩
  · rw [heap_set (by rw [hold _ (by omega)]; exact h.of_)]
    congr 2
    apply Array.ext'
    simp only [Array.toList_setIfInBounds]
    apply List.ext_getElem?
    intro i
    rw [List.getElem?_set]
    by_cases hi : k = i
    · subst hi; simp [hk, hs]
    · simp only [hi, if_false, List.getElem?_map]
      cases hr : (List.range N)[i]? with
      | none => rfl
      | some v =>
        have hv : v = i := by
          obtain ⟨_, h2⟩ := List.getElem?_eq_some_iff.1 hr
          simp at h2; exact h2.symm
        subst hv
        simp only [Option.map_some]
        by_cases h3 : v < k
        · rw [if_pos h3, if_pos (by omega)]
        · rw [if_neg h3, if_neg (by omega)]
  · rw [heap_set_ne (by omega)]
    by_cases e : n = k
    · subst e
      rw [← hs, heap_alloc_new, made_one]
      congr 3
      apply List.ext_getElem?
      intro i
      by_cases hi : i < L
      · simp [hi, h0 i hi]
      · simp [hi]
    · rw [hold _ (by omega)]; exact h.row n (by omega)
theorem EndsSt.set (h : EndsSt W wr L N k E) {n i : Nat} (hn : n < k) (v : Nat) : EndsSt W (wr.setCell ⟨W.heap.size + 1 + n, i, none⟩ (.int .u32 v)) L N k (fun a b => if a = n ∧ b = i then v else E a b) := by
  have hs := h.size
  refine ⟨h.below.setCell (by show W.heap.size ≤ W.heap.size + 1 + n; omega) _, ?_, fun a ha => ?_, by rw [size_setCell]; exact hs⟩
  · rw [heap_set_ne (by omega)]; exact h.of_
  · by_cases e : a = n
    · subst e
      rw [heap_set (h.row _ ha)]
      congr 2
      apply Array.ext'
      simp only [Array.toList_setIfInBounds]
      apply List.ext_getElem?
      intro j
      rw [List.getElem?_set]
      by_cases hj : i = j
      · subst hj
        by_cases hi : i < L
        · simp [hi]
        · simp [hi]
      · simp only [hj, if_false, List.getElem?_map]
        cases hr : (List.range L)[j]? with
        | none => rfl
        | some v =>
          have hv : v = j := by
            obtain ⟨_, h2⟩ := List.getElem?_eq_some_iff.1 hr
            simp at h2; exact h2.symm
          subst hv
          simp [show ¬ v = i from fun e => hj e.symm]
    · rw [heap_set_ne (by omega), h.row a ha]
      congr 3
      apply List.map_congr_left
      intro b _
      rw [if_neg (fun hh => e hh.1)]
theorem EndsSt.isSl (h : EndsSt W wr L N N E) (hN : N ≤ 10) (hL : L ≤ 13) : IsSl (Elt.sl Elt.u32) (fun b => W.heap.size ≤ b) wr (.slice (some ⟨W.heap.size, 0, none⟩) N N) (matOf E L N) := by
  have hML : (matOf E L N).length = N := by simp [matOf]
  refine ⟨_, N, by rw [hML], by omega, fun n hn => ⟨W.heap.size, 0, rfl, Nat.le_refl _, blk_lt h.of_, Nat.le_refl _, some ⟨W.heap.size + 1 + n, 0, none⟩, L, blk_cell h.of_ ?_, ?_, ?_⟩⟩
  · simp [Elt.sl, show n < N by omega, matOf]
  · simp [matOf]
  · have hrk := h.row n (by omega)
    have hrk2 : wr.heap[W.heap.size + 1 + n]? = some (.cells (((matOf E L N)[n]).map (fun n : Nat => Value.int .u32 n)).toArray 196 (0, 0)) := by rw [hrk]; simp [matOf]
    refine sl_of_blk (enc := fun n : Nat => Value.int .u32 n) _ (by omega) hrk2 rfl ?_
    simp [matOf]; omega
end
end Go.Proofs.Ytcndbohiiodndaa
