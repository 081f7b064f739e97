import Derived.Test.YtcndbohiiodndaaCykQ
import Derived.Test.YtcndbohiiodndaaBuild
open Go Go.RowKit
namespace Go.Proofs.Ytcndbohiiodndaa

/-! ### ends out of the chart -/
def ebits (f : Nat → Bool) (lo : Nat) : Nat → Nat
  | 0 => 0
  | k + 1 => if lo ≤ k ∧ f k = true then ebits f lo k ||| 2 ^ k else ebits f lo k
theorem ebits_bit (f : Nat → Bool) (lo j : Nat) : ∀ k, (ebits f lo k).testBit j = true ↔ lo ≤ j ∧ j < k ∧ f j = true
  | 0 => by simp [ebits]
  | k + 1 => by
    unfold ebits
    by_cases h : lo ≤ k ∧ f k = true
    · rw [if_pos h, Nat.testBit_or, Bool.or_eq_true, ebits_bit f lo j k, Nat.testBit_two_pow]
      constructor
      · rintro (⟨h1, h2, h3⟩ | h2)
        · exact ⟨h1, by omega, h3⟩
        · have : k = j := by simpa using h2
          subst this; exact ⟨h.1, by omega, h.2⟩
      · rintro ⟨h1, h2, h3⟩
        by_cases e : k = j
        · right; simp [e]
        · exact .inl ⟨h1, by omega, h3⟩
    · rw [if_neg h, ebits_bit f lo j k]
      constructor
      · rintro ⟨h1, h2, h3⟩; exact ⟨h1, by omega, h3⟩
      · rintro ⟨h1, h2, h3⟩
        by_cases e : j = k
        · subst e; exact absurd ⟨h1, h3⟩ h
        · exact ⟨h1, by omega, h3⟩
theorem ebits_lt (f : Nat → Bool) (lo : Nat) : ∀ k, k ≤ 13 → ebits f lo k < 2 ^ 32
  | 0, _ => by simp [ebits]
  | k + 1, h => by
    unfold ebits
    split
    · exact or_lt (ebits_lt f lo k (by omega)) (pow_lt13 (by omega))
    · exact ebits_lt f lo k (by omega)
theorem ebits_start (f : Nat → Bool) (lo : Nat) : ∀ k, k ≤ lo → ebits f lo k = 0
  | 0, _ => rfl
  | k + 1, h => by unfold ebits; rw [if_neg (by omega)]; exact ebits_start f lo k (by omega)

/-- the entries while row n is filled, at its place i, as far as j -/
def cur (K : Nat → Nat → Nat → Bool) (L n i j : Nat) : Nat → Nat → Nat := fun a b => if a < n ∨ (a = n ∧ b < i) then ebits (fun j => K b j a) b L else if a = n ∧ b = i then ebits (fun j => K b j a) b j else 0
theorem cur_place (K : Nat → Nat → Nat → Bool) (L n i : Nat) : cur K L n i L = cur K L n (i + 1) (i + 1) := by
  funext a b
  unfold cur
  by_cases h1 : a < n ∨ (a = n ∧ b < i)
  · rw [if_pos h1, if_pos (by omega)]
  · rw [if_neg h1]
    by_cases h2 : a = n ∧ b = i
    · rw [if_pos h2, if_pos (by omega)]
    · rw [if_neg h2, if_neg (by omega)]
      by_cases h3 : a = n ∧ b = i + 1
      · rw [if_pos h3, ebits_start _ _ _ (by omega)]
      · rw [if_neg h3]
theorem cur_row (K : Nat → Nat → Nat → Bool) (L n j a b : Nat) (hb : b < L) : cur K L n L j a b = cur K L (n + 1) 0 0 a b := by
  unfold cur
  by_cases h1 : a < n ∨ (a = n ∧ b < L)
  · rw [if_pos h1, if_pos (by omega)]
  · rw [if_neg h1, if_neg (by omega), if_neg (by omega)]
    by_cases h3 : a = n + 1 ∧ b = 0
    · rw [if_pos h3]; rfl
    · rw [if_neg h3]
theorem cur_fresh (K : Nat → Nat → Nat → Bool) (L n b : Nat) : cur K L n 0 0 n b = 0 := by
  unfold cur
  rw [if_neg (by omega)]
  by_cases h : n = n ∧ b = 0
  · rw [if_pos h]; rfl
  · rw [if_neg h]
theorem cur_at (K : Nat → Nat → Nat → Bool) (L n i j : Nat) : cur K L n i j n i = ebits (fun j => K i j n) i j := by
  unfold cur
  rw [if_neg (by omega), if_pos ⟨rfl, rfl⟩]
theorem cur_no {K : Nat → Nat → Nat → Bool} {L n i j : Nat} (h : K i j n = false) : cur K L n i (j + 1) = cur K L n i j := by
  funext a b
  unfold cur
  by_cases h1 : a < n ∨ (a = n ∧ b < i)
  · rw [if_pos h1, if_pos h1]
  · rw [if_neg h1, if_neg h1]
    by_cases h2 : a = n ∧ b = i
    · obtain ⟨rfl, rfl⟩ := h2
      rw [if_pos ⟨rfl, rfl⟩, if_pos ⟨rfl, rfl⟩]
      conv => lhs; unfold ebits
      rw [if_neg (by simp [h])]
    · rw [if_neg h2, if_neg h2]
theorem cur_yes {K : Nat → Nat → Nat → Bool} {L n i j : Nat} (hij : i ≤ j) (h : K i j n = true) : cur K L n i (j + 1) = fun a b => if a = n ∧ b = i then cur K L n i j n i ||| 2 ^ j else cur K L n i j a b := by
  funext a b
  by_cases h2 : a = n ∧ b = i
  · obtain ⟨rfl, rfl⟩ := h2
    rw [if_pos ⟨rfl, rfl⟩, cur_at, cur_at]
    conv => lhs; unfold ebits
    rw [if_pos ⟨hij, h⟩]
  · rw [if_neg h2]
    unfold cur
    by_cases h1 : a < n ∨ (a = n ∧ b < i)
    · rw [if_pos h1, if_pos h1]
    · rw [if_neg h1, if_neg h1, if_neg h2, if_neg h2]

def matOf (E : Nat → Nat → Nat) (L N : Nat) : List (List Nat) := (List.range N).map fun n => (List.range L).map fun i => E n i
theorem entry_matOf (E : Nat → Nat → Nat) (L N : Nat) (n : Int) (i : Nat) : entry (matOf E L N) n i = if n.toNat < N ∧ i < L then E n.toNat i else 0 := by
  unfold entry matOf
  rw [List.getD_eq_getElem?_getD, List.getD_eq_getElem?_getD]
  by_cases h1 : n.toNat < N
  · by_cases h2 : i < L
    · simp [h1, h2]
    · simp [h1, h2]
  · simp [h1]

/-- ends that hold just what is derived are the word's -/
theorem isM_of {g : Gram} {x : List Int} {M : List (List Nat)} (hv : Valid g) (hs : MShape g x M) (h : ∀ n i j, 0 ≤ n → ((entry M n i).testBit j = true ↔ Drv g x [⟨false, n⟩] i j)) : IsM g x M := by
  have hso : Sound g x M := fun n i j hn hb => (h n i j hn).1 hb
  refine ⟨hs, hso, fun r hr i hi j hj => ?_⟩
  have hok := hv.ok r hr
  have hsh : j ≤ x.length := seq_short (sound_short hso (entry_neg M)) r.r (2 ^ i) j (fun i' hi' => by
    rw [Nat.testBit_two_pow] at hi'
    have : i = i' := by simpa using hi'
    omega) hj
  obtain ⟨i', hi', hd⟩ := seq_drv hso r.r (fun y hy => (hok.syms y hy).n0) _ j hj hsh
  rw [Nat.testBit_two_pow] at hi'
  have : i = i' := by simpa using hi'
  subst this
  exact (h r.l i j hok.l0).2 (.non hr rfl hd (.nil _ hsh))

theorem drv_nons {g : Gram} {x : List Int} (hv : Valid g) {n : Int} {i j : Nat} (h : Drv g x [⟨false, n⟩] i j) : n < g.nons := by
  generalize hl : [(⟨false, n⟩ : Sym)] = l at h
  cases h with
  | nil => cases hl
  | term => injection hl with h1; injection h1 with h1; cases h1
  | non hr hn _ _ =>
    injection hl with h1
    injection h1 with _ h1
    subst h1
    have := (hv.ok _ hr).l1
    omega

theorem isM_chart {g : Gram} {x : List Int} {K : Nat → Nat → Nat → Bool} (hv : Valid g) (hm : x.length ≤ 12) (N : Nat) (hN : g.nons = N) (hK : ∀ (n a b : Nat), K a b n = true ↔ Drv g x [⟨false, (n : Int)⟩] a b) : IsM g x (matOf (cur K (x.length + 1) N 0 0) (x.length + 1) N) := by
  have hE : ∀ n i, n < N → cur K (x.length + 1) N 0 0 n i = ebits (fun j => K i j n) i (x.length + 1) := fun n i hn => by
    unfold cur; rw [if_pos (.inl hn)]
  refine isM_of hv ⟨by simp [matOf, hN], fun r hr => ?_, fun r hr v hv => ?_⟩ fun n i j hn => ?_
  · unfold matOf at hr
    obtain ⟨n, _, rfl⟩ := List.mem_map.1 hr
    simp
  · unfold matOf at hr
    obtain ⟨n, hn, rfl⟩ := List.mem_map.1 hr
    obtain ⟨i, _, rfl⟩ := List.mem_map.1 hv
    rw [hE n i (by simpa using hn)]
    exact ebits_lt _ _ _ (by omega)
  · rw [entry_matOf]
    constructor
    · intro hb
      split at hb
      · rename_i hh
        rw [hE _ _ hh.1, ebits_bit] at hb
        have := (hK n.toNat i j).1 hb.2.2
        rwa [Int.toNat_of_nonneg hn] at this
      · simp at hb
    · intro hd
      have hlt := drv_nons hv hd
      have hle := drv_le hd
      rw [if_pos ⟨by omega, by omega⟩, hE _ _ (by omega), ebits_bit]
      exact ⟨hle.1, by omega, (hK n.toNat i j).2 (by rwa [Int.toNat_of_nonneg hn])⟩

/-- the rows of ends that the chart's bits are laid into -/
structure EndsSt (W wr : World) (L N k : Nat) (E : Nat → Nat → Nat) : Prop where
  below : Below W.heap.size W wr
  of_ : wr.heap[W.heap.size]? = some (.cells ((List.range N).map (fun n => if n < k then (.slice (some ⟨W.heap.size + 1 + n, 0, none⟩) L L : Value) else .slice none 0 0)).toArray 195 (0, 0))
  row : ∀ n, n < k → wr.heap[W.heap.size + 1 + n]? = some (.cells ((List.range L).map (fun i => Value.int .u32 (E n i : Nat))).toArray 196 (0, 0))
  size : wr.heap.size = W.heap.size + 1 + k

section
variable {W wr : World} {L N k : Nat} {E E' : Nat → Nat → Nat}
theorem EndsSt.start (W : World) (L N : Nat) (E : Nat → Nat → Nat) : EndsSt W (W.alloc (.cells (madeCells #[.slice none 0 0] N) 195)) L N 0 E := by
  refine ⟨below1 _ _, ?_, fun n hn => by omega, World.size_alloc _ _⟩
  rw [heap_alloc_new, made_one]
  congr 2
  apply Array.ext'
  simp only [Nat.not_lt_zero, if_false]
  apply List.ext_getElem <;> simp
theorem EndsSt.congr (h : EndsSt W wr L N k E) (he : ∀ n, n < k → ∀ i, i < L → E n i = E' n i) : EndsSt W wr L N k E' := by
  refine ⟨h.below, h.of_, fun n hn => ?_, h.size⟩
  rw [h.row n hn]
  congr 3
  apply List.map_congr_left
  intro i hi
  rw [he n hn i (by simpa using hi)]
theorem EndsSt.drewN (h : EndsSt W wr L N k E) (q : Nat) : EndsSt W (wr.drewN q) L N k E := ⟨below_drewN h.below q, h.of_, h.row, h.size⟩
theorem EndsSt.more (h : EndsSt W wr L N k E) (hk : k < N) (h0 : ∀ i, i < L → E k i = 0) :
    EndsSt W ((wr.alloc (.cells (madeCells #[.int .u32 0] L) 196)).setCell ⟨W.heap.size, k, none⟩ (.slice (some ⟨wr.heap.size, 0, none⟩) L L)) L N (k + 1) E := by
  have hs := h.size
  have hold : ∀ b, b < wr.heap.size → (wr.alloc (.cells (madeCells #[.int .u32 0] L) 196)).heap[b]? = wr.heap[b]? := fun b hb => Below.heap_alloc wr _ b hb
  refine ⟨(h.below.alloc h.below.size _).setCell (Nat.le_refl _) _, ?_, fun n hn => ?_, by rw [size_setCell, World.size_alloc, hs]; omega⟩
  · rw [heap_set (by rw [hold _ (by omega)]; exact h.of_)]
    congr 2
    apply Array.ext'
    simp only [Array.toList_setIfInBounds]
    apply List.ext_getElem?
    intro i
    rw [List.getElem?_set]
    by_cases hi : k = i
    · subst hi; simp [hk, hs]
    · simp only [hi, if_false, List.getElem?_map]
      cases hr : (List.range N)[i]? with
      | none => rfl
      | some v =>
        have hv : v = i := by
          obtain ⟨_, h2⟩ := List.getElem?_eq_some_iff.1 hr
          simp at h2; exact h2.symm
        subst hv
        simp only [Option.map_some]
        by_cases h3 : v < k
        · rw [if_pos h3, if_pos (by omega)]
        · rw [if_neg h3, if_neg (by omega)]
  · rw [heap_set_ne (by omega)]
    by_cases e : n = k
    · subst e
      rw [← hs, heap_alloc_new, made_one]
      congr 3
      apply List.ext_getElem?
      intro i
      by_cases hi : i < L
      · simp [hi, h0 i hi]
      · simp [hi]
    · rw [hold _ (by omega)]; exact h.row n (by omega)
theorem EndsSt.set (h : EndsSt W wr L N k E) {n i : Nat} (hn : n < k) (v : Nat) : EndsSt W (wr.setCell ⟨W.heap.size + 1 + n, i, none⟩ (.int .u32 v)) L N k (fun a b => if a = n ∧ b = i then v else E a b) := by
  have hs := h.size
  refine ⟨h.below.setCell (by show W.heap.size ≤ W.heap.size + 1 + n; omega) _, ?_, fun a ha => ?_, by rw [size_setCell]; exact hs⟩
  · rw [heap_set_ne (by omega)]; exact h.of_
  · by_cases e : a = n
    · subst e
      rw [heap_set (h.row _ ha)]
      congr 2
      apply Array.ext'
      simp only [Array.toList_setIfInBounds]
      apply List.ext_getElem?
      intro j
      rw [List.getElem?_set]
      by_cases hj : i = j
      · subst hj
        by_cases hi : i < L
        · simp [hi]
        · simp [hi]
      · simp only [hj, if_false, List.getElem?_map]
        cases hr : (List.range L)[j]? with
        | none => rfl
        | some v =>
          have hv : v = j := by
            obtain ⟨_, h2⟩ := List.getElem?_eq_some_iff.1 hr
            simp at h2; exact h2.symm
          subst hv
          simp [show ¬ v = i from fun e => hj e.symm]
    · rw [heap_set_ne (by omega), h.row a ha]
      congr 3
      apply List.map_congr_left
      intro b _
      rw [if_neg (fun hh => e hh.1)]
theorem EndsSt.isSl (h : EndsSt W wr L N N E) (hN : N ≤ 10) (hL : L ≤ 13) : IsSl (Elt.sl Elt.u32) (fun b => W.heap.size ≤ b) wr (.slice (some ⟨W.heap.size, 0, none⟩) N N) (matOf E L N) := by
  have hML : (matOf E L N).length = N := by simp [matOf]
  refine ⟨_, N, by rw [hML], by omega, fun n hn => ⟨W.heap.size, 0, rfl, Nat.le_refl _, blk_lt h.of_, Nat.le_refl _, some ⟨W.heap.size + 1 + n, 0, none⟩, L, blk_cell h.of_ ?_, ?_, ?_⟩⟩
  · simp [Elt.sl, show n < N by omega, matOf]
  · simp [matOf]
  · have hrk := h.row n (by omega)
    have hrk2 : wr.heap[W.heap.size + 1 + n]? = some (.cells (((matOf E L N)[n]).map (fun n : Nat => Value.int .u32 n)).toArray 196 (0, 0)) := by rw [hrk]; simp [matOf]
    refine sl_of_blk (enc := fun n : Nat => Value.int .u32 n) _ (by omega) hrk2 rfl ?_
    simp [matOf]; omega
end
end Go.Proofs.Ytcndbohiiodndaa

open Go Go.RowKit
namespace Go.Proofs.Ytcndbohiiodndaa

section
variable {g : Gram} {x : List Int} {A : Option Addr} {c : Nat} {B : Option Addr} {d : Nat}

set_option maxRecDepth 100000 in
set_option maxHeartbeats 8000000 in
theorem cykForest_any (F0 : Nat → Prop) (w : World) (hr : IsSl Elt.rule F0 w (.slice A g.rules.length c) g.rules) (hx : IsSl Elt.int F0 w (.slice B x.length d) x) (hv : Valid g) (hc : g.rules.length ≤ c) (ho : OkWord g x) (hm : x.length ≤ 12) :
    Calls Try.prog 90 #[gramV g (.slice A g.rules.length c), .slice B x.length d] w fun e w' => OfEnd w w' e g x := by
  obtain ⟨N, hN⟩ : ∃ N : Nat, g.nons = N := ⟨g.nons.toNat, by have := hv.n1; omega⟩
  have hN10 : N ≤ 10 := by have := hv.n10; omega
  have hmkN : ∀ w : World, (Instr.makeSlice 186 (.int .i64 g.nons) (.int .i64 g.nons)).run Try.prog w = .ok (.slice (some ⟨w.heap.size, 0, none⟩) N N) (w.alloc (.cells (madeCells #[.slice none 0 0] N) 195)) := by
    rw [hN]
    exact run_make_row' (P := Try.prog) 186 195 (.slice none 0 0) 24 Try.underlying186 Try.infoU32s rfl .i64 .i64 N (by omega) (by omega)
  have hmkL := run_make_row' (P := Try.prog) 195 196 (.int .u32 0) 4 Try.underlying195 Try.infoU32 rfl .i64 .i64 (x.length + 1) (by omega) (by omega)
  simp only [Int.natCast_add, Int.natCast_one] at hmkL
  have HN := Lib.hid hN
  clear hN
  unfold gramV
  go_enter Try.func90, Try.ntmps90
  go_wp2_with fail
  have hb2 := below2 w (.cells #[.int .i64 g.terms, .int .i64 g.nons, .int .i64 g.start, .slice A g.rules.length c] 25) (.cells #[.slice none 0 0, .int .i64 0] 101)
  have hw2 := blk_new1 (w := w) rfl (.cells #[.int .i64 g.terms, .int .i64 g.nons, .int .i64 g.start, .slice A g.rules.length c] 25) (.cells #[.slice none 0 0, .int .i64 0] 101)
  have hf2 := blk_new' (w := w.alloc (.cells #[.int .i64 g.terms, .int .i64 g.nons, .int .i64 g.start, .slice A g.rules.length c] 25)) (World.size_alloc _ _) (.cells #[.slice none 0 0, .int .i64 0] 101)
  have hacc := accepts_any F0 g A _ c x B _ d _ (hr.below hb2) hv hc (hx.below hb2) ho hm
  unfold gramV at hacc
  with_reducible refine hacc.mono ?_
  rintro e3 w3 ⟨whole, rfl, -, hb3⟩
  have hg3 := blk_below hb3 (blk_lt hw2) hw2
  have hf3 := blk_below hb3 (blk_lt hf2) hf2
  have hw3 : Below w.heap.size w w3 := hb2.trans (hb3.mono hb2.size)
  have hr3 := hr.below hw3
  have hx3 := hx.below hw3
  have hnc := newChart_any F0 g x A c B d w3 hr3 hx3 hv hm
  unfold gramV at hnc
  have k0 := blk_cell hg3 (i := 0) rfl
  have k1 := blk_cell hg3 (i := 1) rfl
  have k2 := blk_cell hg3 (i := 2) rfl
  have k3 := blk_cell hg3 (i := 3) rfl
  clear hw2 hf2 hb3 hb2 hacc hr hx
  go_wp2_with fail
  refine hnc.mono ?_
  rintro e4 w4 hN4
  obtain ⟨s4, rfl, hN5⟩ := hN4.newEnd (Below.refl _ w3)
  obtain ⟨F, bc, hA, hc', iA, ic, H, I, rfl, hb4, hleaf, hC⟩ := hN5
  have hS := FillSt.start hC
  have hw4 : Below w.heap.size w w4 := hw3.trans (hb4.mono hw3.size)
  have hr4 := hr3.below hb4
  have hx4 := hx3.below hb4
  have hg4 := blk_below hb4 (blk_lt hg3) hg3
  have hf4 := blk_below hb4 (blk_lt hf3) hf3
  have hg3l := blk_lt hg3
  have hf3l := blk_lt hf3
  clear hC hnc hN4 k0 k1 k2 k3 hr3 hx3 hg3 hf3
  go_wp2_with fail
  go_loopg [9] (x.length + 1) (fun gk sv wr => ∃ (s : Nat) (M : Nat → Nat → Nat → Nat → Bool) (K : Nat → Nat → Nat → Bool), s ≤ x.length + 1 ∧ gk = x.length + 1 - s ∧ sv = .int .i64 s ∧ FillSt F w4 wr bc g x A c B d hA hc' iA ic H I s 0 M K)
  case atStart => exact ⟨0, _, _, by omega, by omega, rfl, hS⟩
  case round =>
    clear hS
    obtain ⟨s, M, K, hs, rfl, rfl, hS⟩ := hrel
    by_cases hlt : s < x.length + 1
    · have hsz : (s : Int) ≤ (x.length : Int) := by omega
      have hsm : s ≤ x.length := by omega
      go_wp2_with fail
      go_loopg [10] (x.length + 1 - s) (fun gk kv wr => ∃ (k : Nat) (M : Nat → Nat → Nat → Nat → Bool) (K : Nat → Nat → Nat → Bool), k + s ≤ x.length + 1 ∧ gk = x.length + 1 - s - k ∧ kv = .int .i64 k ∧ FillSt F w4 wr bc g x A c B d hA hc' iA ic H I s k M K)
      case atStart => exact ⟨0, M, K, by omega, by omega, rfl, hS⟩
      case round =>
        clear hS
        obtain ⟨k, M, K, hk, rfl, rfl, hS⟩ := hrel
        by_cases hlt2 : k + s < x.length + 1
        · have hkz : (k : Int) + (s : Int) ≤ (x.length : Int) := by omega
          have hksm : k + s ≤ x.length := by omega
          go_wp2_with fail
          go_loopg [] (roomC g M K k (k + s) + 1) (fun gk wr => ∃ (M : Nat → Nat → Nat → Nat → Bool) (K : Nat → Nat → Nat → Bool), gk = roomC g M K k (k + s) + 1 ∧ FillSt F w4 wr bc g x A c B d hA hc' iA ic H I s k M K)
          case atStart => exact ⟨M, K, rfl, hS⟩
          case round =>
            clear hS
            obtain ⟨M, K, rfl, hS⟩ := hrel
            have hst := step_any _ hS.1 hS.2.2.1 hv hm (Nat.le_add_right k s) (show k + s ≤ x.length by omega)
            simp only [Int.natCast_add] at hst
            go_wp2_with fail
            refine hst.mono ?_
            rintro e5 w5 ⟨mv, M', K', rfl, hT, hP⟩
            have hS5 := hS.more hT
            rcases hP with ⟨rfl, hP⟩ | ⟨rfl, rfl, rfl, hP⟩
            · go_wp2_with fail
              go_roundg (roomC g M' K' k (k + s) + 1)
              case measure => omega
              case rel => exact ⟨M', K', rfl, hS5⟩
            · go_wp2_with fail
              go_roundg (x.length + 1 - s - (k + 1))
              case measure => omega
              case rel => exact ⟨k + 1, _, _, by omega, rfl, by go_num, hS5.done hP⟩
        · have hkz : ¬ ((k : Int) + (s : Int) ≤ (x.length : Int)) := by omega
          go_wp2_with fail
          go_roundg (x.length + 1 - (s + 1))
          case measure => omega
          case rel => exact ⟨s + 1, M, K, by omega, rfl, by go_num, hS.next (by omega)⟩
    · obtain rfl : s = x.length + 1 := by omega
      have hsz : ¬ (((x.length + 1 : Nat) : Int) ≤ (x.length : Int)) := by omega
      have hit := fun n a b => hS.iff (by omega) n a b
      have hIM := isM_chart hv hm N HN.out hit
      have hCh := hS.1
      have haw := hS.2.1
      have hnle : ∀ b, LeafB H I b → w3.heap.size ≤ b := hleaf
      obtain ⟨wo, rfl⟩ : ∃ wo : World, wo = wr := ⟨_, rfl⟩
      have hg5 := (haw.block _ (blk_lt hg4) (fun hb => by have := hleaf _ hb; omega)).trans hg4
      have hf5 := (haw.block _ (blk_lt hf4) (fun hb => by have := hleaf _ hb; omega)).trans hf4
      have hw5 : Below w.heap.size w wo := hw4.trans ((haw.mono hw4.size (fun _ _ h => h)).below fun b hb hb2 => by have := hleaf b hb2; have := hw3.size; omega)
      have hr5 := hCh.rules
      have hx5 := hCh.word
      have kn := blk_cell hg5 (i := 1) rfl
      clear hit hS hg4 hf4 hr4 hx4 hleaf
      go_wp2_with fail
      clear kn hmkN
      have hE0 := EndsSt.start wo (x.length + 1) N (cur K (x.length + 1) 0 0 0)
      go_loopg [53] N (fun gk v wr => ∃ n : Nat, n ≤ N ∧ gk = N - n ∧ v = .int .i64 n ∧ EndsSt wo wr (x.length + 1) N n (cur K (x.length + 1) n 0 0))
      case atStart => exact ⟨0, by omega, by omega, rfl, hE0⟩
      case round =>
        clear hE0
        obtain ⟨n, hn, rfl, rfl, hE⟩ := hrel
        by_cases hlt3 : n < N
        · have hnz : (n : Int) < (N : Int) := by omega
          have hsz := hE.size
          have hst1 : ∀ o, (wr.alloc o).cell? ⟨wo.heap.size, n, none⟩ = some (.slice none 0 0) := fun o => by
            rw [World.cell?_alloc_old _ _ _ (by show wo.heap.size ≠ wr.heap.size; omega)]
            exact blk_cell hE.of_ (by simp [hlt3])
          have hst2 : ∀ o, (wr.alloc o).frozen? ⟨wo.heap.size, n, none⟩ = false := fun o => by
            rw [World.frozen?_of_block (w := wr) (Below.heap_alloc wr o _ (by show wo.heap.size < wr.heap.size; omega))]
            exact blk_free hE.of_
          have hE1 := hE.more hlt3 (fun i _ => cur_fresh K (x.length + 1) n i)
          have HSZ := Lib.hid hsz
          clear hsz hE
          go_upto_region 17 with (fail)
          generalize (wr.alloc (.cells (madeCells #[.int .u32 0] (x.length + 1)) 196)).setCell ⟨wo.heap.size, n, none⟩ (.slice (some ⟨wr.heap.size, 0, none⟩) (x.length + 1) (x.length + 1)) = w1 at hE1 ⊢
          have hh1 := blk_cell hE1.of_ (i := n) (v := .slice (some ⟨wo.heap.size + 1 + n, 0, none⟩) (x.length + 1) (x.length + 1)) (by simp [hlt3])
          clear hst1 hst2 HSZ
          go_wp2_with fail
          clear hh1
          go_loopg [68] (x.length + 1) (fun gk v wr => ∃ i : Nat, i ≤ x.length + 1 ∧ gk = x.length + 1 - i ∧ v = .int .i64 i ∧ EndsSt wo wr (x.length + 1) N (n + 1) (cur K (x.length + 1) n i i))
          case atStart => exact ⟨0, by omega, by omega, rfl, hE1⟩
          case round =>
            clear hE1
            obtain ⟨i, hi, rfl, rfl, hE⟩ := hrel
            by_cases hlt4 : i < x.length + 1
            · have hiz : (i : Int) < (x.length : Int) + 1 := by omega
              go_wp2_with fail
              go_loopg [14] (x.length + 1 - i) (fun gk v wr => ∃ j : Nat, i ≤ j ∧ j ≤ x.length + 1 ∧ gk = x.length + 1 - j ∧ v = .int .i64 j ∧ EndsSt wo wr (x.length + 1) N (n + 1) (cur K (x.length + 1) n i j))
              case atStart => exact ⟨i, by omega, by omega, by omega, rfl, hE⟩
              case round =>
                clear hE
                obtain ⟨j, hij, hj, rfl, rfl, hE⟩ := hrel
                obtain ⟨wi, rfl⟩ : ∃ wi : World, wi = wr := ⟨_, rfl⟩
                by_cases hlt5 : j < x.length + 1
                · have hjz : (j : Int) ≤ (x.length : Int) := by omega
                  have hiz2 : (i : Int) ≤ (x.length : Int) := by omega
                  have hChi := hCh.below hE.below
                  obtain ⟨b1, o1, b2, o2, c2, m, hiA, q1, hnm, q2, q3, -⟩ := hChi.isCell (i := i) (j := j) (n := n) (by omega) (by omega) (by have := HN.out; omega)
                  have qb := blk_cell hChi.blk (i := 6) rfl
                  rw [hiA] at qb
                  have hnmz : (n : Int) < (m : Int) := by omega
                  obtain ⟨v, hv1⟩ : ∃ v, K i j n = v := ⟨_, rfl⟩
                  rw [hv1] at q3
                  have HV := Lib.hid hv1
                  clear hv1 hiA hChi
                  cases v
                  · go_wp2_with fail
                    go_roundg (x.length + 1 - (j + 1))
                    case measure => omega
                    case rel => exact ⟨j + 1, by omega, by omega, rfl, by go_num, by rw [cur_no HV.out]; exact hE⟩
                  · have hh1 := blk_cell hE.of_ (i := n) (v := .slice (some ⟨wo.heap.size + 1 + n, 0, none⟩) (x.length + 1) (x.length + 1)) (by simp [hlt3])
                    have hrw := hE.row n (by omega)
                    have hh2 := blk_cell hrw (i := i) (v := .int .u32 (cur K (x.length + 1) n i j n i : Nat)) (by simp [hlt4])
                    have hh3 : wi.frozen? ⟨wo.heap.size + 1 + n, i, none⟩ = false := blk_free hrw
                    have hcl : cur K (x.length + 1) n i j n i < 2 ^ 32 := by rw [cur_at]; exact ebits_lt _ _ _ (by omega)
                    have hpl : 2 ^ j < 2 ^ 32 := pow_lt13 (by omega)
                    have hpw := pow_mod13 (k := j) (by omega)
                    have hor := u32_or_nat (cur K (x.length + 1) n i j n i) (2 ^ j) hcl hpl
                    have hEs := hE.set (n := n) (i := i) (by omega) (cur K (x.length + 1) n i j n i ||| 2 ^ j)
                    rw [← cur_yes hij HV.out] at hEs
                    have hEs2 := fun q => ((hE.drewN q).set (n := n) (i := i) (by omega) (cur K (x.length + 1) n i j n i ||| 2 ^ j)).congr (E' := cur K (x.length + 1) n i (j + 1)) (fun a _ b _ => by rw [cur_yes hij HV.out])
                    have HES := Lib.hid hEs2
                    generalize cur K (x.length + 1) n i j n i ||| 2 ^ j = vv at hor HES
                    generalize cur K (x.length + 1) n i j n i = cc at hor hh2 hcl
                    generalize 2 ^ j = pp at hor hpl hpw
                    clear hEs hEs2 hE hrw
                    go_wp2_with fail
                    go_region
                    go_wp2_with fail
                    go_roundg (x.length + 1 - (j + 1))
                    case measure => omega
                    case rel => exact ⟨j + 1, by omega, by omega, rfl, by go_num, HES.out 1⟩
                · obtain rfl : j = x.length + 1 := by omega
                  have hjz : ¬ (((x.length + 1 : Nat) : Int) ≤ (x.length : Int)) := by omega
                  go_wp2_with fail
                  go_roundg (x.length + 1 - (i + 1))
                  case measure => omega
                  case rel => exact ⟨i + 1, by omega, rfl, by go_num, by rw [← cur_place]; exact hE⟩
            · obtain rfl : i = x.length + 1 := by omega
              have hiz : ¬ (((x.length + 1 : Nat) : Int) < (x.length : Int) + 1) := by omega
              go_wp2_with fail
              go_roundg (N - (n + 1))
              case measure => omega
              case rel => exact ⟨n + 1, by omega, rfl, by go_num, hE.congr fun a _ b hb => cur_row K _ n _ a b hb⟩
        · obtain rfl : n = N := by omega
          have hbw := hE.below
          have hsl := hE.isSl hN10 (by omega)
          have hlo := hw5.size
          have hg6 := blk_below hbw (blk_lt hg5) hg5
          have hf6 := blk_below hbw (blk_lt hf5) hf5
          have hw6 : Below w.heap.size w wr := hw5.trans (hbw.mono hw5.size)
          have hML : (matOf (cur K (x.length + 1) n 0 0) (x.length + 1) n).length = n := by simp [matOf]
          have hbd := build_any (C := some ⟨wo.heap.size, 0, none⟩) (q := n) (fun _ => True) hv hm wr hc ho ((hr5.below hbw).weak fun _ _ => trivial) ((hx5.below hbw).weak fun _ _ => trivial) (by rw [hML]; exact hsl.weak fun _ _ => trivial) hIM.1 (sound_low hIM.2.1) (sound_short hIM.2.1 (entry_neg _))
          rw [hML] at hbd
          unfold gramV at hbd
          have k0 := blk_cell hg6 (i := 0) rfl
          have k1 := blk_cell hg6 (i := 1) rfl
          have k2 := blk_cell hg6 (i := 2) rfl
          have k3 := blk_cell hg6 (i := 3) rfl
          generalize matOf (cur K (x.length + 1) n 0 0) (x.length + 1) n = M2 at hIM hbd
          clear hE hsl hML hr5 hx5 hCh haw
          go_wp2_with fail
          with_reducible refine hbd.mono ?_
          rintro e7 w7 ⟨Q, cn, rfl, hb7, hsl7⟩
          have hf7 := blk_below hb7 (blk_lt hf6) hf6
          have hw7 := hw6.trans (hb7.mono hw6.size)
          have hg0 : w7.frozen? ⟨w.heap.size + 1, 0, none⟩ = false := blk_free hf7
          have hg1 : w7.frozen? ⟨w.heap.size + 1, 1, none⟩ = false := blk_free hf7
          have hd0 := blk_cell hf7 (i := 0) rfl
          have hd1 := blk_cell hf7 (i := 1) rfl
          have HFF := Lib.hid (show madeF g x M2 = madeF g x M2 from rfl)
          have hfin : ∀ u v, ((w7.setCell ⟨w.heap.size + 1, 0, none⟩ u).setCell ⟨w.heap.size + 1, 1, none⟩ v).heap[w.heap.size + 1]? = some (.cells #[u, v] 101 (0, 0)) := fun u v => by
            rw [heap_set (heap_set hf7 _ _)]; rfl
          have hlf := blk_lt hf6
          clear hbd hf6 hf5 k0 k1 k2 k3 hf7 hg6 hg5
          go_wp2_with fail
          refine bodyPost_ret (results_cell_tmp rfl rfl (run_loadVar_row _ (w.heap.size + 1) 101 101 #[.slice Q (madeF g x M2).1.nodes.length cn, .int .i64 (madeF g x M2).1.root] (0, 0) _ (hfin _ _) Try.underlying101 rfl (by kernel_rfl))) rfl ?_
          refine ⟨M2, Q, cn, hIM, rfl, ?_, ?_⟩
          · exact (hw7.setCell (p := ⟨w.heap.size + 1, 0, none⟩) (by show w.heap.size ≤ w.heap.size + 1; omega) _).setCell (p := ⟨w.heap.size + 1, 1, none⟩) (by show w.heap.size ≤ w.heap.size + 1; omega) _
          · exact (hsl7.keep (fun b hb => by rw [heap_set_ne (by omega), heap_set_ne (by omega)]) (by rw [size_setCell, size_setCell]; exact Nat.le_refl _)).weak fun b hb => by have := hw6.size; omega
end
end Go.Proofs.Ytcndbohiiodndaa
