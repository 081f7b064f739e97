import Derived.Test.YtdbkbkopcnkgcaaShapeA
import Derived.Test.YtdbkbkopcnkgcaaMakeG
open Go Go.RowKit
namespace Go.Proofs.Ytdbkbkopcnkgcaa

/-! ### short words have few packs: the limit is never met -/
theorem flatMap_one {α β : Type} [DecidableEq α] {f : α → List β} {j : α} (hj : (f j).length ≤ 1) : ∀ ps : List α, ps.Nodup → (∀ p ∈ ps, p ≠ j → f p = []) → (ps.flatMap f).length ≤ 1
  | [], _, _ => by simp
  | p :: ps, hn, h => by
    obtain ⟨h1, h2⟩ := List.nodup_cons.1 hn
    rw [List.flatMap_cons, List.length_append]
    by_cases e : p = j
    · subst e
      have : ps.flatMap f = [] := by
        rw [List.flatMap_eq_nil_iff]
        exact fun q hq => h q (List.mem_cons_of_mem _ hq) fun e => h1 (e ▸ hq)
      rw [this]
      simpa using hj
    · rw [h p (List.mem_cons_self ..) e, List.length_nil, Nat.zero_add]
      exact flatMap_one hj ps h2 fun q hq => h q (List.mem_cons_of_mem _ hq)

theorem flatMap_len {α β : Type} {f : α → List β} {b : Nat} : ∀ ps : List α, (∀ p ∈ ps, (f p).length ≤ b) → (ps.flatMap f).length ≤ ps.length * b
  | [], _ => by simp
  | p :: ps, h => by
    rw [List.flatMap_cons, List.length_append, List.length_cons, Nat.succ_mul]
    have := h p (List.mem_cons_self ..)
    have := flatMap_len ps fun q hq => h q (List.mem_cons_of_mem _ hq)
    omega

section
variable {g : Gram} {x : List Int} {M : List (List Nat)}

theorem splitU_len {rule j : Nat} : ∀ (l : List Sym) (a : Nat) (kids : List Part), (splitU x M rule j l a kids).length ≤ (j + 1 - a) ^ (l.length - 1)
  | [], a, kids => by simp [splitU]
  | [y], a, kids => by
    unfold splitU
    simp only [List.length_cons, List.length_nil, Nat.zero_add, Nat.sub_self, Nat.pow_zero]
    refine flatMap_one (j := j) ?_ _ List.nodup_range' fun p _ hp => ?_
    · split
      · unfold splitU; simp
      · simp
    · rw [if_neg]
      rintro ⟨_, h2⟩
      unfold seqEnds at h2
      rw [List.foldl_nil, Nat.testBit_two_pow] at h2
      exact hp (of_decide_eq_true h2)
  | y :: z :: l, a, kids => by
    have ih := fun p k => splitU_len (z :: l) p k (rule := rule) (j := j)
    unfold splitU
    have h1 := flatMap_len (f := fun p => if (aft1 x M y a).testBit p = true ∧ (seqEnds x M (z :: l) (2 ^ p)).testBit j = true then splitU x M rule j (z :: l) p (kids ++ [⟨y, a, p⟩]) else []) (b := (j + 1 - a) ^ l.length) (List.range' a (j + 1 - a)) (fun p hp => by
      split
      · refine Nat.le_trans (ih _ _) ?_
        rw [List.mem_range'_1] at hp
        exact Nat.pow_le_pow_left (by omega) _
      · simp)
    refine Nat.le_trans h1 ?_
    rw [List.length_range', List.length_cons, List.length_cons, Nat.add_sub_cancel, Nat.pow_succ, Nat.mul_comm]
    exact Nat.le_refl _

def sqP (p : Part) : Nat := (p.j + 1 - p.i) ^ 2
theorem ruleU_len {p : Part} {rn : Rule × Nat} (h3 : rn.1.r.length ≤ 3) : (ruleU x M p rn).length ≤ sqP p := by
  unfold ruleU sqP
  split
  · rename_i hc
    by_cases h0 : p.j + 1 - p.i = 0
    · cases hr : rn.1.r with
      | nil =>
        rw [hr] at hc
        have := hc.2
        unfold seqEnds at this
        rw [List.foldl_nil, Nat.testBit_two_pow] at this
        have := of_decide_eq_true this
        omega
      | cons y l => unfold splitU; rw [h0]; simp
    · exact Nat.le_trans (splitU_len _ _ _) (Nat.pow_le_pow_right (by omega) (by omega))
  · simp

theorem sum_le {α : Type} {f h : α → Nat} : ∀ l : List α, (∀ a ∈ l, f a ≤ h a) → (l.map f).sum ≤ (l.map h).sum
  | [], _ => Nat.le_refl _
  | a :: l, hl => by
    simp only [List.map_cons, List.sum_cons]
    have := hl a (List.mem_cons_self ..)
    have := sum_le l fun b hb => hl b (List.mem_cons_of_mem _ hb)
    omega
theorem sum_const {α : Type} (b : Nat) : ∀ l : List α, (l.map fun _ => b).sum = l.length * b
  | [] => by simp
  | a :: l => by simp only [List.map_cons, List.sum_cons, List.length_cons, Nat.succ_mul]; rw [sum_const b l]; omega
theorem sum_add {α : Type} (f h : α → Nat) : ∀ l : List α, (l.map fun a => f a + h a).sum = (l.map f).sum + (l.map h).sum
  | [] => rfl
  | a :: l => by simp only [List.map_cons, List.sum_cons]; rw [sum_add f h l]; omega
theorem sum_swap {α β : Type} (f : α → β → Nat) (m : List β) : ∀ l : List α, (l.map fun a => (m.map (f a)).sum).sum = (m.map fun b => (l.map fun a => f a b).sum).sum
  | [] => by simp [sum_const]
  | a :: l => by
    simp only [List.map_cons, List.sum_cons]
    rw [sum_swap f m l, sum_add]
theorem sum_filter {α : Type} (c : α → Bool) (f : α → Nat) : ∀ l : List α, (l.map fun a => if c a = true then f a else 0).sum = ((l.filter c).map f).sum
  | [] => by simp
  | a :: l => by
    simp only [List.map_cons, List.sum_cons, List.filter_cons]
    rw [sum_filter c f l]
    by_cases h : c a = true
    · simp [h]
    · simp [h]
theorem sum_erase {α : Type} [DecidableEq α] (f : α → Nat) {a : α} : ∀ m : List α, a ∈ m → (m.map f).sum = f a + ((m.erase a).map f).sum
  | [], h => by cases h
  | b :: m, h => by
    by_cases e : b = a
    · subst e; rw [List.erase_cons_head]; rfl
    · have hm : a ∈ m := by
        rcases List.mem_cons.1 h with h | h
        · exact absurd h.symm e
        · exact h
      rw [List.erase_cons_tail (by simpa using e)]
      simp only [List.map_cons, List.sum_cons]
      rw [sum_erase f m hm]
      omega
theorem sum_sub {α : Type} [DecidableEq α] (f : α → Nat) : ∀ l m : List α, l.Nodup → (∀ a ∈ l, a ∈ m) → (l.map f).sum ≤ (m.map f).sum
  | [], _, _, _ => by simp
  | a :: l, m, h, hs => by
    have ha := hs a (List.mem_cons_self ..)
    have ih := sum_sub f l (m.erase a) (List.nodup_cons.1 h).2 fun b hb => by
      have hne : b ≠ a := fun e => (List.nodup_cons.1 h).1 (e ▸ hb)
      exact (List.mem_erase_of_ne hne).2 (hs b (List.mem_cons_of_mem _ hb))
    rw [sum_erase f m ha]
    simp only [List.map_cons, List.sum_cons]
    omega

theorem ways_len (hs : Small g) {p : Part} : (waysU g x M p).length ≤ (g.rules.map fun r => if decide (p.y = ⟨false, r.l⟩) = true then sqP p else 0).sum := by
  unfold waysU
  split
  · simp
  · rename_i ht
    have ht : p.y.t = false := by simpa using ht
    rw [List.length_flatMap]
    have h1 : (g.rules.map fun r => if decide (p.y = ⟨false, r.l⟩) = true then sqP p else 0) = g.rules.zipIdx.map fun rn => if decide (p.y = ⟨false, rn.1.l⟩) = true then sqP p else 0 := by
      rw [show (fun rn : Rule × Nat => if decide (p.y = ⟨false, rn.1.l⟩) = true then sqP p else 0) = (fun r : Rule => if decide (p.y = ⟨false, r.l⟩) = true then sqP p else 0) ∘ (fun rn : Rule × Nat => rn.1) from rfl, ← List.map_map, List.zipIdx_map_fst]
    rw [h1]
    refine sum_le _ fun rn hrn => ?_
    by_cases hc : rn.1.l = p.y.n
    · have hp : p.y = ⟨false, rn.1.l⟩ := by
        have h2 : p.y = ⟨p.y.t, p.y.n⟩ := rfl
        rw [h2, ht, hc]
      rw [if_pos (by simpa using hp)]
      exact ruleU_len (hs.l3 _ (List.fst_mem_of_mem_zipIdx hrn))
    · unfold ruleU
      rw [if_neg fun h => hc h.1]
      simp

def pairsY (y : Sym) : List Part := (List.range 9).flatMap fun i => (List.range 9).map fun j => ⟨y, i, j⟩
theorem pairsY_sum (y : Sym) : ((pairsY y).map sqP).sum = 825 := by
  have h : (pairsY y).map sqP = (List.range 9).flatMap fun i => (List.range 9).map fun j => (j + 1 - i) ^ 2 := by
    unfold pairsY
    rw [List.map_flatMap]
    refine congrArg (fun f => List.flatMap f (List.range 9)) (funext fun i => ?_)
    rw [List.map_map]
    rfl
  rw [h]
  decide
theorem sum_sqs {l : List Part} (hn : l.Nodup) (h8 : ∀ p ∈ l, p.i ≤ 8 ∧ p.j ≤ 8) (y : Sym) : ((l.filter fun p => decide (p.y = y)).map sqP).sum ≤ 825 := by
  refine Nat.le_trans (sum_sub sqP (l.filter fun p => decide (p.y = y)) (pairsY y) (hn.filter _) (fun p hp => ?_)) (Nat.le_of_eq (pairsY_sum y))
  rw [List.mem_filter] at hp
  have h2 := h8 p hp.1
  have h3 : p.y = y := by simpa using hp.2
  unfold pairsY
  rw [List.mem_flatMap]
  refine ⟨p.i, by simp; omega, ?_⟩
  rw [List.mem_map]
  exact ⟨p.j, by simp; omega, by rw [← h3]⟩

/-- all packs of short words: fewer than the limit -/
theorem packs_few (hs : Small g) {l : List Part} (hn : l.Nodup) (h8 : ∀ p ∈ l, p.i ≤ 8 ∧ p.j ≤ 8) : (l.map fun p => (waysU g x M p).length).sum ≤ maxPacks := by
  refine Nat.le_trans (sum_le l fun p hp => ways_len hs) ?_
  rw [sum_swap]
  refine Nat.le_trans (sum_le (h := fun _ => 825) g.rules fun r _ => ?_) ?_
  · rw [sum_filter (fun p : Part => decide (p.y = ⟨false, r.l⟩)) sqP l]
    exact sum_sqs hn h8 ⟨false, r.l⟩
  · rw [sum_const]
    have := hs.r8
    unfold maxPacks
    omega
end
end Go.Proofs.Ytdbkbkopcnkgcaa
