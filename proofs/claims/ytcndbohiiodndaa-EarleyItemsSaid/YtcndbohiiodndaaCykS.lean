import Derived.Test.YtcndbohiiodndaaCykN
import Derived.BigRegion
open Go Go.RowKit
namespace Go.Proofs.Ytcndbohiiodndaa

/-- the rows of bits -/
def LeafB (H : List (List (List (Nat × Nat)))) (I : List (List (Nat × Nat))) (b : Nat) : Prop := ∃ p ∈ H.flatten.flatten ++ I.flatten, p.1 = b

section
variable {F : Nat → Prop} {w w' : World} {bc : Nat} {g : Gram} {x : List Int} {A : Option Addr} {c : Nat} {B : Option Addr} {d : Nat} {hA : Option Addr} {hc : Nat} {iA : Option Addr} {ic : Nat} {H : List (List (List (Nat × Nat)))} {I : List (List (Nat × Nat))} {M : Nat → Nat → Nat → Nat → Bool} {K : Nat → Nat → Nat → Bool}

theorem ChartAt.keep (h : ChartAt F w bc g x A c B d hA hc iA ic H I M K) (hb : ∀ b, b < w.heap.size → w'.heap[b]? = w.heap[b]?) (hs : w.heap.size ≤ w'.heap.size) : ChartAt F w' bc g x A c B d hA hc iA ic H I M K := by
  have hF : ∀ b, (F b ∧ b < w.heap.size) → w'.heap[b]? = w.heap[b]? := fun b h => hb b h.2
  refine ⟨(hb _ (blk_lt h.blk)).trans h.blk, h.fb, (h.rules.old.keep hF hs).weak fun _ h => h.1, (h.word.old.keep hF hs).weak fun _ h => h.1, ?_, h.bits.keep fun b o ho => (hb b (blk_lt ho)).trans ho⟩
  exact ⟨(h.grid.has.old.keep hF hs).weak fun _ h => h.1, (h.grid.is.old.keep hF hs).weak fun _ h => h.1, h.grid.hl, h.grid.hr, h.grid.hx, h.grid.il, h.grid.ir, h.grid.ix, h.grid.dist, h.grid.out⟩
theorem ChartAt.below (h : ChartAt F w bc g x A c B d hA hc iA ic H I M K) (hb : Below w.heap.size w w') : ChartAt F w' bc g x A c B d hA hc iA ic H I M K := h.keep hb.block hb.size

theorem Grid.leaf3 {hv iv : Value} (h : Grid g x F w hv iv H I) {i j n : Nat} (hi : i ≤ x.length) (hj : j ≤ x.length) (hn : n < g.rules.length) : LeafB H I (at3 H i j n).1 := by
  obtain ⟨h1, h2, h3, e, _⟩ := h.get3 hi hj hn
  rw [e]
  exact ⟨_, List.mem_append_left _ (List.mem_flatten.2 ⟨H[i][j], List.mem_flatten.2 ⟨H[i], by simp, by simp⟩, by simp⟩), rfl⟩
theorem Grid.leaf2 {hv iv : Value} (h : Grid g x F w hv iv H I) {i j : Nat} (hi : i ≤ x.length) (hj : j ≤ x.length) : LeafB H I (at2 I i j).1 := by
  obtain ⟨h1, h2, e, _⟩ := h.get2 hi hj
  rw [e]
  exact ⟨_, List.mem_append_right _ (List.mem_flatten.2 ⟨I[i], by simp, by simp⟩), rfl⟩

theorem ChartAt.setM (h : ChartAt F w bc g x A c B d hA hc iA ic H I M K) {i j n : Nat} (hi : i ≤ x.length) (hj : j ≤ x.length) (hn : n < g.rules.length) (e : Nat) :
    ChartAt F (w.setCell ⟨(at3 H i j n).1, e, none⟩ (.bool true)) bc g x A c B d hA hc iA ic H I (setM M i j n e) K := by
  have hout := h.grid.out3 hi hj hn
  have hF : ∀ b, F b → (w.setCell ⟨(at3 H i j n).1, e, none⟩ (.bool true)).heap[b]? = w.heap[b]? := fun b hb => heap_set_ne (fun e => hout (by rw [← e]; exact hb)) _ _
  have hs : w.heap.size ≤ (w.setCell ⟨(at3 H i j n).1, e, none⟩ (.bool true)).heap.size := by rw [size_setCell]; exact Nat.le_refl _
  exact ⟨(hF _ h.fb).trans h.blk, h.fb, h.rules.keep hF hs, h.word.keep hF hs, h.grid.keep hF hs, h.bits.setM h.grid hi hj hn e⟩
theorem ChartAt.setK (h : ChartAt F w bc g x A c B d hA hc iA ic H I M K) {i j : Nat} (hi : i ≤ x.length) (hj : j ≤ x.length) (n : Nat) :
    ChartAt F (w.setCell ⟨(at2 I i j).1, n, none⟩ (.bool true)) bc g x A c B d hA hc iA ic H I M (setK K i j n) := by
  have hout := h.grid.out2 hi hj
  have hF : ∀ b, F b → (w.setCell ⟨(at2 I i j).1, n, none⟩ (.bool true)).heap[b]? = w.heap[b]? := fun b hb => heap_set_ne (fun e => hout (by rw [← e]; exact hb)) _ _
  have hs : w.heap.size ≤ (w.setCell ⟨(at2 I i j).1, n, none⟩ (.bool true)).heap.size := by rw [size_setCell]; exact Nat.le_refl _
  exact ⟨(hF _ h.fb).trans h.blk, h.fb, h.rules.keep hF hs, h.word.keep hF hs, h.grid.keep hF hs, h.bits.setK h.grid hi hj n⟩

/-- the way to a bit of a rule's row -/
theorem ChartAt.hasCell (h : ChartAt F w bc g x A c B d hA hc iA ic H I M K) {i j n e : Nat} (hi : i ≤ x.length) (hj : j ≤ x.length) (hn : n < g.rules.length) (he : e ≤ g.rules[n].r.length) :
    ∃ b1 o1 b2 o2 b3 o3 c2 c3 l3, hA = some ⟨b1, o1, none⟩ ∧ w.cell? ⟨b1, o1 + i, none⟩ = some (.slice (some ⟨b2, o2, none⟩) (x.length + 1) c2) ∧ w.cell? ⟨b2, o2 + j, none⟩ = some (.slice (some ⟨b3, o3, none⟩) l3 c3) ∧ n < l3 ∧
      w.cell? ⟨b3, o3 + n, none⟩ = some (.slice (some ⟨(at3 H i j n).1, 0, none⟩) (g.rules[n].r.length + 1) (g.rules[n].r.length + 1)) ∧ w.cell? ⟨(at3 H i j n).1, e, none⟩ = some (.bool (M i j n e)) ∧ w.frozen? ⟨(at3 H i j n).1, e, none⟩ = false := by
  obtain ⟨h1, h2, h3, he1, he2⟩ := h.grid.get3 hi hj hn
  obtain ⟨b1, o1, rfl, _, _, A2, c2, k1, s1⟩ := h.grid.has.rowAt i h1
  obtain ⟨b2, o2, rfl, _, _, A3, c3, k2, s2⟩ := s1.rowAt j h2
  obtain ⟨b3, o3, rfl, _, _, k3⟩ := s2.oneAt n h3
  have hb := h.bits.has i j n hi hj hn
  refine ⟨b1, o1, b2, o2, b3, o3, c2, c3, H[i][j].length, rfl, ?_, k2, h3, ?_, blk_cell hb (bits_get _ _ _ (by omega)), blk_free hb⟩
  · rw [k1, h.grid.hr _ (by simp)]
  · rw [k3, he1]
    unfold hdV
    rw [he2]
/-- the way to a bit of a nonterminal -/
theorem ChartAt.isCell (h : ChartAt F w bc g x A c B d hA hc iA ic H I M K) {i j n : Nat} (hi : i ≤ x.length) (hj : j ≤ x.length) (hn : (n : Int) < g.nons) :
    ∃ b1 o1 b2 o2 c2 m, iA = some ⟨b1, o1, none⟩ ∧ w.cell? ⟨b1, o1 + i, none⟩ = some (.slice (some ⟨b2, o2, none⟩) (x.length + 1) c2) ∧ n < m ∧
      w.cell? ⟨b2, o2 + j, none⟩ = some (.slice (some ⟨(at2 I i j).1, 0, none⟩) m m) ∧ w.cell? ⟨(at2 I i j).1, n, none⟩ = some (.bool (K i j n)) ∧ w.frozen? ⟨(at2 I i j).1, n, none⟩ = false := by
  obtain ⟨h1, h2, he1, he2⟩ := h.grid.get2 hi hj
  obtain ⟨b1, o1, rfl, _, _, A2, c2, k1, s1⟩ := h.grid.is.rowAt i h1
  obtain ⟨b2, o2, rfl, _, _, k2⟩ := s1.oneAt j h2
  have hb := h.bits.is i j hi hj
  refine ⟨b1, o1, b2, o2, c2, g.nons.toNat, rfl, ?_, by omega, ?_, blk_cell hb (bits_get _ _ _ (by omega)), blk_free hb⟩
  · rw [k1, h.grid.ir _ (by simp)]
  · rw [k2, he1]
    unfold hdV
    rw [he2]

set_option maxRecDepth 100000 in
set_option maxHeartbeats 800000 in
theorem symbol_any (y : Sym) (i j : Nat) (w : World) (h : ChartAt F w bc g x A c B d hA hc iA ic H I M K) (hm : x.length ≤ 12) (hi : i ≤ x.length) (hj : j ≤ x.length) (hy : 0 ≤ y.n) (hyn : y.t = false → y.n < g.nons) :
    Calls Try.prog 127 #[.pointer (some ⟨bc, 0, none⟩), symV y, .int .i64 i, .int .i64 j] w fun e w' => e = .returned (.bool (symK x K y i j)) ∧ Below w.heap.size w w' := by
  have hk4 := blk_cell h.blk (i := 4) rfl
  have hk6 := blk_cell h.blk (i := 6) rfl
  have hbc := blk_lt h.blk
  have hbA : Below w.heap.size w (w.alloc (.cells #[.bool y.t, .int .i64 y.n] 67)) := below1 _ _
  unfold symV
  obtain ⟨yt, yn⟩ := y
  simp only at hy
  cases yt
  · have hyn' := hyn rfl
    simp only at hyn'
    obtain ⟨b1, o1, b2, o2, c2, m, rfl, k1, hlt, k2, k3, -⟩ := h.isCell (n := yn.toNat) hi hj (by omega)
    have hs : symK x K ⟨false, yn⟩ i j = K i j yn.toNat := by simp [symK]
    have HS := Lib.hid hs
    have hl1 := cell_lt k1
    have hl2 := cell_lt k2
    have hl3 := cell_lt k3
    have hiz : (i : Int) ≤ (x.length : Int) := by omega
    have hjz : (j : Int) ≤ (x.length : Int) := by omega
    have hyz : yn < (m : Int) := by omega
    clear hs
    go_enter Try.func127, Try.ntmps127
    go_wp2_with fail
    go_quiet (fail)
    go_wp2
    go_ret
    exact ⟨ret_bool (by rw [HS.out]), below_drewN ((Below.refl _ _).alloc (Nat.le_refl _) _) _⟩
  · by_cases hji : j = i + 1
    · subst hji
      have hix : i < x.length := by omega
      obtain ⟨b3, o3, rfl, _, hl3, hc7⟩ := h.word.oneAt i hix
      have e1 : (((i + 1 : Nat) : Int) == (i : Int) + 1) = true := by simp
      have hs : symK x K ⟨true, yn⟩ i (i + 1) = (x[i] == yn) := by
        by_cases e : x[i] = yn <;> simp [symK, List.getElem?_eq_getElem hix, e]
      have HS := Lib.hid hs
      clear hs
      generalize x[i] = xi at hc7 HS
      have hiz : (i : Int) < (x.length : Int) := by omega
      go_enter Try.func127, Try.ntmps127
      go_wp2_with fail
      go_quiet (fail)
      go_wp2
      go_ret
      exact ⟨ret_bool (by rw [HS.out]), below_drewN ((Below.refl _ _).alloc (Nat.le_refl _) _) _⟩
    · have e1 : ((j : Int) == (i : Int) + 1) = false := by simp; omega
      have hs : symK x K ⟨true, yn⟩ i j = false := by simp [symK, hji]
      have HS := Lib.hid hs
      clear hs
      go_enter Try.func127, Try.ntmps127
      go_wp2_with fail
      go_quiet (fail)
      go_wp2
      go_ret
      exact ⟨ret_bool (by rw [HS.out]), below_drewN ((Below.refl _ _).alloc (Nat.le_refl _) _) _⟩
end
end Go.Proofs.Ytcndbohiiodndaa
