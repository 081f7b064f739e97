import Derived.Test.YtcndbohiiodndaaCykP
import Derived.Test.YtcndbohiiodndaaAway
open Go Go.RowKit
namespace Go.Proofs.Ytcndbohiiodndaa

/-! ### package cyk: the chart in memory -/

/-- the head of a row of bits: its block and its length -/
def hdV (p : Nat × Nat) : Value := .slice (some ⟨p.1, 0, none⟩) p.2 p.2
def Elt.hd : Elt (Nat × Nat) := Elt.one hdV
def RBlk (p q : Nat × Nat) : Prop := p.1 ≠ q.1
def bitsOf (f : Nat → Bool) (n : Nat) : Array Value := ((List.range n).map fun d => Value.bool (f d)).toArray

structure Grid (g : Gram) (x : List Int) (F : Nat → Prop) (w : World) (hv iv : Value) (H : List (List (List (Nat × Nat)))) (I : List (List (Nat × Nat))) : Prop where
  has : IsSl (Elt.sl (Elt.sl Elt.hd)) F w hv H
  is : IsSl (Elt.sl Elt.hd) F w iv I
  hl : H.length = x.length + 1
  hr : ∀ a ∈ H, a.length = x.length + 1
  hx : ∀ a ∈ H, ∀ b ∈ a, b.map (·.2) = g.rules.map (·.r.length + 1)
  il : I.length = x.length + 1
  ir : ∀ a ∈ I, a.length = x.length + 1
  ix : ∀ a ∈ I, ∀ p ∈ a, p.2 = g.nons.toNat
  dist : (H.flatten.flatten ++ I.flatten).Pairwise RBlk
  out : ∀ p ∈ H.flatten.flatten ++ I.flatten, ¬ F p.1

theorem Grid.keep {g : Gram} {x : List Int} {F : Nat → Prop} {w w' : World} {hv iv : Value} {H : List (List (List (Nat × Nat)))} {I : List (List (Nat × Nat))} (h : Grid g x F w hv iv H I) (hk : ∀ k, F k → w'.heap[k]? = w.heap[k]?) (hs : w.heap.size ≤ w'.heap.size) : Grid g x F w' hv iv H I :=
  ⟨h.has.keep hk hs, h.is.keep hk hs, h.hl, h.hr, h.hx, h.il, h.ir, h.ix, h.dist, h.out⟩

def at3 (H : List (List (List (Nat × Nat)))) (i j n : Nat) : Nat × Nat := ((H.getD i []).getD j []).getD n (0, 0)
def at2 (I : List (List (Nat × Nat))) (i j : Nat) : Nat × Nat := (I.getD i []).getD j (0, 0)

theorem RBlk.symm {p q : Nat × Nat} (h : RBlk p q) : RBlk q p := fun e => h e.symm

theorem pw_get {α : Type} {R : α → α → Prop} (hsym : ∀ a b, R a b → R b a) {l : List α} (h : l.Pairwise R) {i j : Nat} (hi : i < l.length) (hj : j < l.length) (hne : i ≠ j) : R l[i] l[j] := by
  rcases Nat.lt_or_ge i j with h1 | h1
  · exact List.pairwise_iff_getElem.1 h i j hi hj h1
  · exact hsym _ _ (List.pairwise_iff_getElem.1 h j i hj hi (by omega))

section
variable {g : Gram} {x : List Int} {F : Nat → Prop} {w : World} {hv iv : Value} {H : List (List (List (Nat × Nat)))} {I : List (List (Nat × Nat))}

theorem Grid.get3 (h : Grid g x F w hv iv H I) {i j n : Nat} (hi : i ≤ x.length) (hj : j ≤ x.length) (hn : n < g.rules.length) :
    ∃ (h1 : i < H.length) (h2 : j < H[i].length) (h3 : n < H[i][j].length), at3 H i j n = H[i][j][n] ∧ H[i][j][n].2 = g.rules[n].r.length + 1 := by
  have h1 : i < H.length := by rw [h.hl]; omega
  have h2 : j < H[i].length := by rw [h.hr _ (by simp)]; omega
  have h4 := h.hx H[i] (by simp) H[i][j] (by simp)
  have h3 : n < H[i][j].length := by have := congrArg List.length h4; simp at this; omega
  refine ⟨h1, h2, h3, by simp [at3, List.getD_eq_getElem?_getD, h1, h2, h3], ?_⟩
  have h5 : (H[i][j].map (·.2))[n]? = (g.rules.map (·.r.length + 1))[n]? := by rw [h4]
  simpa [h3, hn] using h5
theorem Grid.get2 (h : Grid g x F w hv iv H I) {i j : Nat} (hi : i ≤ x.length) (hj : j ≤ x.length) :
    ∃ (h1 : i < I.length) (h2 : j < I[i].length), at2 I i j = I[i][j] ∧ I[i][j].2 = g.nons.toNat := by
  have h1 : i < I.length := by rw [h.il]; omega
  have h2 : j < I[i].length := by rw [h.ir _ (by simp)]; omega
  exact ⟨h1, h2, by simp [at2, List.getD_eq_getElem?_getD, h1, h2], h.ix I[i] (by simp) _ (by simp)⟩

theorem Grid.out3 (h : Grid g x F w hv iv H I) {i j n : Nat} (hi : i ≤ x.length) (hj : j ≤ x.length) (hn : n < g.rules.length) : ¬ F (at3 H i j n).1 := by
  obtain ⟨h1, h2, h3, e, _⟩ := h.get3 hi hj hn
  rw [e]
  refine h.out _ (List.mem_append_left _ (List.mem_flatten.2 ⟨H[i][j], List.mem_flatten.2 ⟨H[i], by simp, by simp⟩, by simp⟩))
theorem Grid.out2 (h : Grid g x F w hv iv H I) {i j : Nat} (hi : i ≤ x.length) (hj : j ≤ x.length) : ¬ F (at2 I i j).1 := by
  obtain ⟨h1, h2, e, _⟩ := h.get2 hi hj
  rw [e]
  exact h.out _ (List.mem_append_right _ (List.mem_flatten.2 ⟨I[i], by simp, by simp⟩))

theorem Grid.inj3 (h : Grid g x F w hv iv H I) {i j n a b c : Nat} (hi : i ≤ x.length) (hj : j ≤ x.length) (hn : n < g.rules.length) (ha : a ≤ x.length) (hb : b ≤ x.length) (hc : c < g.rules.length)
    (he : (at3 H i j n).1 = (at3 H a b c).1) : a = i ∧ b = j ∧ c = n := by
  obtain ⟨h1, h2, h3, e, _⟩ := h.get3 hi hj hn
  obtain ⟨k1, k2, k3, e', _⟩ := h.get3 ha hb hc
  rw [e, e'] at he
  obtain ⟨hp, _, _⟩ := List.pairwise_append.1 h.dist
  obtain ⟨p1, p2⟩ := List.pairwise_flatten.1 hp
  obtain ⟨p3, p4⟩ := List.pairwise_flatten.1 p2
  by_cases ei : a = i
  · subst ei
    by_cases ej : b = j
    · subst ej
      by_cases en : c = n
      · exact ⟨rfl, rfl, en⟩
      · exact absurd he (pw_get (fun _ _ => RBlk.symm) (p1 _ (List.mem_flatten.2 ⟨H[a], by simp, by simp⟩)) h3 k3 (fun e => en e.symm))
    · exact absurd he (pw_get (R := fun l1 l2 => ∀ x ∈ l1, ∀ y ∈ l2, RBlk x y) (fun _ _ hh u hu v hv => (hh v hv u hu).symm) (p3 H[a] (by simp)) h2 k2 (fun e => ej e.symm) _ (by simp) _ (by simp))
  · exact absurd he (pw_get (R := fun l1 l2 => ∀ x ∈ l1, ∀ y ∈ l2, ∀ u ∈ x, ∀ v ∈ y, RBlk u v) (fun _ _ hh x hx y hy u hu v hv => (hh y hy x hx v hv u hu).symm) p4 h1 k1 (fun e => ei e.symm) H[i][j] (List.getElem_mem _) H[a][b] (List.getElem_mem _) _ (List.getElem_mem _) _ (List.getElem_mem _))
theorem Grid.inj2 (h : Grid g x F w hv iv H I) {i j a b : Nat} (hi : i ≤ x.length) (hj : j ≤ x.length) (ha : a ≤ x.length) (hb : b ≤ x.length)
    (he : (at2 I i j).1 = (at2 I a b).1) : a = i ∧ b = j := by
  obtain ⟨h1, h2, e, _⟩ := h.get2 hi hj
  obtain ⟨k1, k2, e', _⟩ := h.get2 ha hb
  rw [e, e'] at he
  obtain ⟨_, hp, _⟩ := List.pairwise_append.1 h.dist
  obtain ⟨p1, p2⟩ := List.pairwise_flatten.1 hp
  by_cases ei : a = i
  · subst ei
    by_cases ej : b = j
    · exact ⟨rfl, ej⟩
    · exact absurd he (pw_get (fun _ _ => RBlk.symm) (p1 I[a] (by simp)) h2 k2 (fun e => ej e.symm))
  · exact absurd he (pw_get (R := fun l1 l2 => ∀ x ∈ l1, ∀ y ∈ l2, RBlk x y) (fun _ _ hh u hu v hv => (hh v hv u hu).symm) p2 h1 k1 (fun e => ei e.symm) _ (by simp) _ (by simp))
theorem Grid.ne32 (h : Grid g x F w hv iv H I) {i j n a b : Nat} (hi : i ≤ x.length) (hj : j ≤ x.length) (hn : n < g.rules.length) (ha : a ≤ x.length) (hb : b ≤ x.length) : (at3 H i j n).1 ≠ (at2 I a b).1 := by
  obtain ⟨h1, h2, h3, e, _⟩ := h.get3 hi hj hn
  obtain ⟨k1, k2, e', _⟩ := h.get2 ha hb
  rw [e, e']
  obtain ⟨_, _, hp⟩ := List.pairwise_append.1 h.dist
  exact hp _ (List.mem_flatten.2 ⟨H[i][j], List.mem_flatten.2 ⟨H[i], by simp, by simp⟩, by simp⟩) _ (List.mem_flatten.2 ⟨I[a], by simp, by simp⟩)
end

/-- the rows of bits -/
structure BitsAt (g : Gram) (x : List Int) (w : World) (H : List (List (List (Nat × Nat)))) (I : List (List (Nat × Nat))) (M : Nat → Nat → Nat → Nat → Bool) (K : Nat → Nat → Nat → Bool) : Prop where
  has : ∀ i j n, i ≤ x.length → j ≤ x.length → (h : n < g.rules.length) → w.heap[(at3 H i j n).1]? = some (.cells (bitsOf (M i j n) (g.rules[n].r.length + 1)) 4 (0, 0))
  is : ∀ i j, i ≤ x.length → j ≤ x.length → w.heap[(at2 I i j).1]? = some (.cells (bitsOf (K i j) g.nons.toNat) 4 (0, 0))

theorem bits_set (f : Nat → Bool) (n d : Nat) : (bitsOf f n).setIfInBounds d (.bool true) = bitsOf (fun e => if e = d then true else f e) n := by
  unfold bitsOf
  apply Array.ext'
  simp only [Array.toList_setIfInBounds]
  apply List.ext_getElem?
  intro i
  rw [List.getElem?_set]
  by_cases hi : d = i
  · subst hi
    by_cases hd : d < n
    · simp [hd]
    · simp [hd]
  · simp only [hi, if_false, List.getElem?_map]
    cases hr : (List.range n)[i]? with
    | none => rfl
    | some v =>
      have hv : v = i := by
        obtain ⟨_, h2⟩ := List.getElem?_eq_some_iff.1 hr
        simp at h2; exact h2.symm
      subst hv
      simp [show ¬ v = d from fun e => hi e.symm]
theorem bits_get (f : Nat → Bool) (n d : Nat) (h : d < n) : (bitsOf f n)[d]? = some (.bool (f d)) := by simp [bitsOf, h]

section
variable {g : Gram} {x : List Int} {F : Nat → Prop} {w : World} {hv iv : Value} {H : List (List (List (Nat × Nat)))} {I : List (List (Nat × Nat))} {M : Nat → Nat → Nat → Nat → Bool} {K : Nat → Nat → Nat → Bool}

theorem BitsAt.keep {w' : World} (h : BitsAt g x w H I M K) (hk : ∀ (b : Nat) (o : Obj), w.heap[b]? = some o → w'.heap[b]? = some o) : BitsAt g x w' H I M K :=
  ⟨fun i j n hi hj hn => hk _ _ (h.has i j n hi hj hn), fun i j hi hj => hk _ _ (h.is i j hi hj)⟩
theorem BitsAt.below {w' : World} (h : BitsAt g x w H I M K) (hb : Below w.heap.size w w') : BitsAt g x w' H I M K := h.keep fun _ _ ho => blk_below hb (blk_lt ho) ho

theorem BitsAt.setM (h : BitsAt g x w H I M K) (hG : Grid g x F w hv iv H I) {i j n : Nat} (hi : i ≤ x.length) (hj : j ≤ x.length) (hn : n < g.rules.length) (d : Nat) :
    BitsAt g x (w.setCell ⟨(at3 H i j n).1, d, none⟩ (.bool true)) H I (setM M i j n d) K := by
  refine ⟨fun a b c ha hb hc => ?_, fun a b ha hb => ?_⟩
  · by_cases e : (at3 H a b c).1 = (at3 H i j n).1
    · obtain ⟨rfl, rfl, rfl⟩ := hG.inj3 ha hb hc hi hj hn e
      rw [heap_set (h.has _ _ _ hi hj hn), bits_set]
      have : Go.Proofs.Ytcndbohiiodndaa.setM M i j n d i j n = fun e => if e = d then true else M i j n e := by
        funext e'
        simp [Go.Proofs.Ytcndbohiiodndaa.setM]
      rw [this]
    · rw [heap_set_ne e, h.has a b c ha hb hc]
      have : Go.Proofs.Ytcndbohiiodndaa.setM M i j n d a b c = M a b c := by
        funext e'
        unfold Go.Proofs.Ytcndbohiiodndaa.setM
        rw [if_neg]
        rintro ⟨rfl, rfl, rfl, _⟩
        exact e rfl
      rw [this]
  · rw [heap_set_ne (fun e => hG.ne32 hi hj hn ha hb e.symm)]
    exact h.is a b ha hb
theorem BitsAt.setK (h : BitsAt g x w H I M K) (hG : Grid g x F w hv iv H I) {i j : Nat} (hi : i ≤ x.length) (hj : j ≤ x.length) (n : Nat) :
    BitsAt g x (w.setCell ⟨(at2 I i j).1, n, none⟩ (.bool true)) H I M (setK K i j n) := by
  refine ⟨fun a b c ha hb hc => ?_, fun a b ha hb => ?_⟩
  · rw [heap_set_ne (hG.ne32 ha hb hc hi hj)]
    exact h.has a b c ha hb hc
  · by_cases e : (at2 I a b).1 = (at2 I i j).1
    · obtain ⟨rfl, rfl⟩ := hG.inj2 ha hb hi hj e
      rw [heap_set (h.is _ _ hi hj), bits_set]
      have : Go.Proofs.Ytcndbohiiodndaa.setK K i j n i j = fun e => if e = n then true else K i j e := by
        funext e'
        simp [Go.Proofs.Ytcndbohiiodndaa.setK]
      rw [this]
    · rw [heap_set_ne e, h.is a b ha hb]
      have : Go.Proofs.Ytcndbohiiodndaa.setK K i j n a b = K a b := by
        funext e'
        unfold Go.Proofs.Ytcndbohiiodndaa.setK
        rw [if_neg]
        rintro ⟨rfl, rfl, _⟩
        exact e rfl
      rw [this]
end

/-- the chart -/
structure ChartAt (F : Nat → Prop) (w : World) (bc : Nat) (g : Gram) (x : List Int) (A : Option Addr) (c : Nat) (B : Option Addr) (d : Nat) (hA : Option Addr) (hc : Nat) (iA : Option Addr) (ic : Nat) (H : List (List (List (Nat × Nat)))) (I : List (List (Nat × Nat))) (M : Nat → Nat → Nat → Nat → Bool) (K : Nat → Nat → Nat → Bool) : Prop where
  blk : w.heap[bc]? = some (.cells #[.int .i64 g.terms, .int .i64 g.nons, .int .i64 g.start, .slice A g.rules.length c, .slice B x.length d, .slice hA (x.length + 1) hc, .slice iA (x.length + 1) ic] 156 (0, 0))
  fb : F bc
  rules : IsSl Elt.rule F w (.slice A g.rules.length c) g.rules
  word : IsSl Elt.int F w (.slice B x.length d) x
  grid : Grid g x F w (.slice hA (x.length + 1) hc) (.slice iA (x.length + 1) ic) H I
  bits : BitsAt g x w H I M K
end Go.Proofs.Ytcndbohiiodndaa
