import Derived.Test.YtcndbohiiodndaaCykT
import Derived.Test.YtcndbohiiodndaaMeanD
import Derived.Test.YtcndbohiiodndaaForC
open Go Go.RowKit
namespace Go.Proofs.Ytcndbohiiodndaa

/-! ### parts of a word -/
theorem part_get {x : List Int} {i m k : Nat} (hk : k < m) : ((x.drop i).take m)[k]? = x[i + k]? := by
  rw [List.getElem?_take, if_pos hk, List.getElem?_drop]
theorem drv_up {g : Gram} {x : List Int} {i m : Nat} (him : i + m ≤ x.length) {l : List Sym} {a b : Nat} (h : Drv g ((x.drop i).take m) l a b) : Drv g x l (i + a) (i + b) := by
  have hl : ((x.drop i).take m).length = m := by rw [List.length_take, List.length_drop]; omega
  induction h with
  | nil a h => exact .nil _ (by omega)
  | @term t l a b h _ ih =>
    have := (List.getElem?_eq_some_iff.1 h).1
    exact .term (by rw [← part_get (m := m) (by omega)]; exact h) ih
  | non hr hn _ _ ih1 ih2 => exact .non hr hn ih1 ih2
theorem drv_down {g : Gram} {x : List Int} {i m : Nat} (him : i + m ≤ x.length) {l : List Sym} {p q : Nat} (h : Drv g x l p q) : i ≤ p → q ≤ i + m → Drv g ((x.drop i).take m) l (p - i) (q - i) := by
  have hl : ((x.drop i).take m).length = m := by rw [List.length_take, List.length_drop]; omega
  induction h with
  | nil p h => exact fun h1 h2 => .nil _ (by omega)
  | @term t l p q h hr ih =>
    intro h1 h2
    have hle := drv_le hr
    refine .term ?_ ?_
    · rw [part_get (by omega), show i + (p - i) = p by omega]; exact h
    · have := ih (by omega) h2
      rwa [show p + 1 - i = p - i + 1 by omega] at this
  | @non n l r p k q hr hn h1 h2 ih1 ih2 =>
    intro k1 k2
    have e1 := drv_le h1
    have e2 := drv_le h2
    exact .non hr hn (ih1 k1 (by omega)) (ih2 (by omega) k2)
theorem drv_part {g : Gram} {x : List Int} {i m : Nat} (him : i + m ≤ x.length) {l : List Sym} : Drv g ((x.drop i).take m) l 0 m ↔ Drv g x l i (i + m) :=
  ⟨fun h => drv_up him h, fun h => by have := drv_down him h (Nat.le_refl _) (Nat.le_refl _); rwa [Nat.sub_self, Nat.add_sub_cancel_left] at this⟩

theorem run_part_sl {P : Program} {t E : TypeId} (ht : P.underlying t = some (.slice E)) {size : Nat} (hz : ∀ w, (sizeOf E).run P w = .ok size w) {α : Type} {d : Elt α} (hd : d.sz = size) {F : Nat → Prop} {w0 : World} {A : Option Addr} {n c : Nat} {xs : List α} (h : IsSl d F w0 (.slice A n c) xs) (hc : n ≤ c) (i j : Nat) (hij : i ≤ j) (hj : j ≤ n) :
    ∃ A', (∀ w : World, (Instr.slice t (.slice A n c) (some (.int .i64 i)) (some (.int .i64 j)) none).run P w = .ok (.slice A' (j - i) (c - i)) w) ∧ IsSl d F w0 (.slice A' (j - i) (c - i)) ((xs.drop i).take (j - i)) := by
  obtain ⟨rfl, hn⟩ := h.len
  refine ⟨if c = i then A else A.map (·.add (i * size)), fun w => ?_, ?_⟩
  · have hjc : j ≤ c := by omega
    simp [Instr.slice, run_underlying ht, hz, Instr.sliceBounds, Instr.sliceBound, asIntOf, hjc, hij]
  · obtain ⟨A', c', he, hl, h⟩ := h
    injection he with h1 h2 h3
    subst h1
    refine ⟨_, c - i, by rw [List.length_take, List.length_drop, Nat.min_eq_left (by omega)], by rw [List.length_take, List.length_drop]; omega, fun k hk => ?_⟩
    rw [List.length_take, List.length_drop] at hk
    obtain ⟨b, o, rfl, hb, hlt, he⟩ := h (i + k) (by omega)
    rw [if_neg (by omega)]
    refine ⟨b, o + i * size, by simp [add_lit], hb, hlt, ?_⟩
    rw [List.getElem_take, List.getElem_drop, Nat.add_assoc, hd, ← Nat.add_mul, ← hd]
    exact he

/-! ### the chart is filled -/
def FillSt (F : Nat → Prop) (w wr : World) (bc : Nat) (g : Gram) (x : List Int) (A : Option Addr) (c : Nat) (B : Option Addr) (d : Nat) (hA : Option Addr) (hc : Nat) (iA : Option Addr) (ic : Nat) (H : List (List (List (Nat × Nat)))) (I : List (List (Nat × Nat))) (s i : Nat)
    (M : Nat → Nat → Nat → Nat → Bool) (K : Nat → Nat → Nat → Bool) : Prop :=
  ChartAt F wr bc g x A c B d hA hc iA ic H I M K ∧ Away w.heap.size (LeafB H I) w wr ∧ SoundC g x M K ∧ ∀ a b, a ≤ b → b ≤ x.length → (b - a < s ∨ (b - a = s ∧ a < i)) → ClosedC g x M K a b

section
variable {F : Nat → Prop} {w wr w' : World} {bc : Nat} {g : Gram} {x : List Int} {A : Option Addr} {c : Nat} {B : Option Addr} {d : Nat} {hA : Option Addr} {hc : Nat} {iA : Option Addr} {ic : Nat} {H : List (List (List (Nat × Nat)))} {I : List (List (Nat × Nat))} {M M' : Nat → Nat → Nat → Nat → Bool} {K K' : Nat → Nat → Nat → Bool} {s i : Nat} {m : Value}

theorem FillSt.size (h : FillSt F w wr bc g x A c B d hA hc iA ic H I s i M K) : w.heap.size ≤ wr.heap.size := h.2.1.size
theorem FillSt.more (h : FillSt F w wr bc g x A c B d hA hc iA ic H I s i M K) (hT : StepSt F wr w' bc g x A c B d hA hc iA ic H I M K M' K' i (i + s)) : FillSt F w w' bc g x A c B d hA hc iA ic H I s i M' K' := by
  obtain ⟨h1, h2, h3, h4⟩ := h
  refine ⟨hT.chart, h2.trans (hT.away.mono h2.size fun _ _ h => h), hT.sound, fun a b hab hb hs => (h4 a b hab hb hs).same hT.same ?_ (by omega) hab (by omega)⟩
  omega
theorem FillSt.done (h : FillSt F w wr bc g x A c B d hA hc iA ic H I s i M K) (hcl : ClosedC g x M K i (i + s)) : FillSt F w wr bc g x A c B d hA hc iA ic H I s (i + 1) M K := by
  obtain ⟨h1, h2, h3, h4⟩ := h
  refine ⟨h1, h2, h3, fun a b hab hb hs => ?_⟩
  by_cases e : a = i ∧ b = i + s
  · obtain ⟨rfl, rfl⟩ := e; exact hcl
  · exact h4 a b hab hb (by omega)
theorem FillSt.next (h : FillSt F w wr bc g x A c B d hA hc iA ic H I s i M K) (his : x.length < i + s) : FillSt F w wr bc g x A c B d hA hc iA ic H I (s + 1) 0 M K := by
  obtain ⟨h1, h2, h3, h4⟩ := h
  exact ⟨h1, h2, h3, fun a b hab hb hs => h4 a b hab hb (by omega)⟩
theorem FillSt.start (h : ChartAt F w bc g x A c B d hA hc iA ic H I (fun _ _ _ _ => false) (fun _ _ _ => false)) : FillSt F w w bc g x A c B d hA hc iA ic H I 0 0 (fun _ _ _ _ => false) (fun _ _ _ => false) :=
  ⟨h, Away.refl _ _ _, ⟨(fun _ _ _ _ _ _ (hm : false = true) => by cases hm), (fun _ _ _ (hm : false = true) => by cases hm)⟩, fun a b hab hb hs => by omega⟩
theorem FillSt.iff (h : FillSt F w wr bc g x A c B d hA hc iA ic H I s i M K) (hs : x.length < s) (n a b : Nat) : K a b n = true ↔ Drv g x [⟨false, n⟩] a b := by
  obtain ⟨h1, h2, h3, h4⟩ := h
  exact cyk_iff h3 (fun a b hab hb => h4 a b hab hb (by omega)) n a b
theorem FillSt.below (h : FillSt F w wr bc g x A c B d hA hc iA ic H I s i M K) (hb : Below wr.heap.size wr w') : FillSt F w w' bc g x A c B d hA hc iA ic H I s i M K := by
  obtain ⟨h1, h2, h3, h4⟩ := h
  exact ⟨h1.below hb, h2.trans ((Away.ofBelow hb).mono h2.size fun _ _ h => h), h3, h4⟩
end

/-- the nonterminals of a part, in order -/
def PartsOf (g : Gram) (x : List Int) (i j : Nat) (l : List Int) : Prop := l.Pairwise (· < ·) ∧ ∀ n, n ∈ l ↔ 0 ≤ n ∧ n < g.nons ∧ Drv g x [⟨false, n⟩] i j
theorem PartsOf.unique {g : Gram} {x x' : List Int} {i j i' j' : Nat} {l l' : List Int} (h : PartsOf g x i j l) (h' : PartsOf g x' i' j' l') (he : ∀ n, Drv g x [⟨false, n⟩] i j ↔ Drv g x' [⟨false, n⟩] i' j') : l = l' := by
  have hm : ∀ n, n ∈ l ↔ n ∈ l' := fun n => by rw [h.2, h'.2, he]
  have key : ∀ (l l' : List Int), l.Pairwise (· < ·) → l'.Pairwise (· < ·) → (∀ n, n ∈ l ↔ n ∈ l') → l = l' := by
    intro l
    induction l with
    | nil => intro l' _ _ hm; cases l' with
      | nil => rfl
      | cons a l' => exact absurd ((hm a).2 (by simp)) (by simp)
    | cons a l ih =>
      intro l' h1 h2 hm
      cases l' with
      | nil => exact absurd ((hm a).1 (by simp)) (by simp)
      | cons b l' =>
        rw [List.pairwise_cons] at h1 h2
        have hab : a = b := by
          have ha := (hm a).1 (by simp)
          have hb := (hm b).2 (by simp)
          rcases List.mem_cons.1 ha with e | ha
          · exact e
          · rcases List.mem_cons.1 hb with e | hb
            · exact e.symm
            · have := h1.1 b hb; have := h2.1 a ha; omega
        subst hab
        congr 1
        refine ih l' h1.2 h2.2 fun n => ?_
        constructor
        · intro hn
          rcases List.mem_cons.1 ((hm n).1 (List.mem_cons_of_mem _ hn)) with e | h
          · subst e; have := h1.1 n hn; omega
          · exact h
        · intro hn
          rcases List.mem_cons.1 ((hm n).2 (List.mem_cons_of_mem _ hn)) with e | h
          · subst e; have := h2.1 n hn; omega
          · exact h
  exact key l l' h.1 h'.1 hm

/-- the numbers below k that a test lets by -/
def nonsOf (f : Nat → Bool) (k : Nat) : List Int := ((List.range k).filter f).map fun n : Nat => (n : Int)
theorem nonsOf_succ (f : Nat → Bool) (k : Nat) : nonsOf f (k + 1) = nonsOf f k ++ (if f k then [(k : Int)] else []) := by
  unfold nonsOf
  rw [List.range_succ, List.filter_append, List.map_append]
  by_cases h : f k = true <;> simp [h]
theorem nonsOf_len (f : Nat → Bool) (k : Nat) : (nonsOf f k).length ≤ k := by
  unfold nonsOf
  rw [List.length_map]
  exact Nat.le_trans (List.length_filter_le _ _) (by simp)
theorem nonsOf_parts {g : Gram} {x : List Int} {i j : Nat} {f : Nat → Bool} (h : ∀ n : Nat, f n = true ↔ Drv g x [⟨false, n⟩] i j) : PartsOf g x i j (nonsOf f g.nons.toNat) := by
  refine ⟨?_, fun n => ?_⟩
  · unfold nonsOf
    rw [List.pairwise_map]
    exact (List.pairwise_lt_range.filter _).imp fun h => by omega
  · unfold nonsOf
    simp only [List.mem_map, List.mem_filter, List.mem_range, h]
    constructor
    · rintro ⟨k, ⟨h1, h2⟩, rfl⟩
      exact ⟨by omega, by omega, h2⟩
    · rintro ⟨h1, h2, h3⟩
      exact ⟨n.toNat, ⟨by omega, by rwa [Int.toNat_of_nonneg h1]⟩, Int.toNat_of_nonneg h1⟩
end Go.Proofs.Ytcndbohiiodndaa
