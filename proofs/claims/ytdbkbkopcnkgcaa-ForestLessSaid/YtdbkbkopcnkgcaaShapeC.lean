import Derived.Test.YtdbkbkopcnkgcaaShapeB
open Go Go.RowKit
namespace Go.Proofs.Ytdbkbkopcnkgcaa

/-! ### what the forest of a short word is -/
section
variable {g : Gram} {x : List Int} {M M' : List (List Nat)}

theorem ways_small (hs : Small g) {p : Part} (h8 : p.i ≤ 8 ∧ p.j ≤ 8) : (waysU g x M p).length ≤ maxPacks := by
  have := packs_few (g := g) (x := x) (M := M) hs (l := [p]) (by simp) (fun q hq => by simp at hq; rw [hq]; exact h8)
  simpa using this

theorem ways_kids (hs : Small g) (hx : x.length ≤ 8) {p : Part} (hp : p ∈ partsF g x) : ∀ v ∈ waysU g x M p, ∀ k ∈ v.kids, k ∈ partsF g x := by
  obtain ⟨_, _, hi, hj⟩ := of_partsF hp
  by_cases ht : p.y.t = true
  · unfold waysU; rw [if_pos ht]; simp
  · have hu := rulesF_U (g := g) (x := x) (M := M) (p := p) (by simpa using ht) (m := 0) (by have := ways_small (x := x) (M := M) hs (p := p) (by omega); omega)
    have hk := rulesF_ok (M := M) hs.valid hi hj 0
    rw [hu] at hk
    intro v hv k hk2
    obtain ⟨h1, h2, h3⟩ := (hk v hv).ok k hk2
    exact mem_partsF ⟨h1, h2, h3⟩

theorem reach_small (hs : Small g) (hx : x.length ≤ 8) : ∃ s, reachF g x M 4000 (rootF g x) ⟨[], 0⟩ = some s ∧ RInv g x M (partsF g x) s ∧ (∀ p, p ∈ keysR s ↔ Reached g x M p) ∧ s.many ≤ maxPacks := by
  obtain ⟨s, h1, -⟩ := reach_root (M := M) hs.valid (x := x) (by omega)
  have hB : ∀ l : List Part, l.Nodup → (∀ p ∈ l, p ∈ partsF g x) → (l.map fun p => (waysU g x M p).length).sum ≤ maxPacks := fun l hn hl => packs_few hs hn fun p hp => by
    obtain ⟨_, _, h2, h3⟩ := of_partsF (hl p hp)
    omega
  obtain ⟨k1, k2, k3⟩ := reachF_U (Rch := Reached g x M) (fun p hp => ways_kids hs hx hp) (fun p hp v hv k hk => .kid hp hv hk) hB 4000 (rootF g x) ⟨[], 0⟩ s h1 (mem_partsF (root_ok hs.valid)) .root ⟨by simp [keysR], by simp [keysR], by simp, by simp [keysR]⟩
  refine ⟨s, h1, k1, fun p => ⟨fun hp => (k2.2 p hp (by simp [keysR])).1, fun hp => ?_⟩, by rw [k1.many]; exact hB _ k1.nodup k1.sub⟩
  induction hp with
  | root => exact k3
  | kid _ hv hk ih => exact (k2.2 _ ih (by simp [keysR])).2 _ hv _ hk

/-- the state of a forest that is made -/
structure MadeU (g : Gram) (x : List Int) (M : List (List Nat)) (s : RS) : Prop where
  keys : ∀ p, p ∈ keysR s ↔ Reached g x M p
  nodup : (keysR s).Nodup
  look : ∀ p, Reached g x M p → alook s.ways p = some (waysU g x M p)
  ok : ∀ p, Reached g x M p → p ∈ partsF g x

theorem made_small (hs : Small g) (hx : x.length ≤ 8) (h : (entry M g.start 0).testBit x.length = true) : ∃ s, MadeU g x M s ∧ madeF g x M = (forestF s (rootF g x), 0) := by
  obtain ⟨s, h1, h2, h3, h4⟩ := reach_small (M := M) hs hx
  refine ⟨s, ⟨h3, h2.nodup, fun p hp => ?_, fun p hp => h2.sub p ((h3 p).2 hp)⟩, ?_⟩
  · cases hl : alook s.ways p with
    | none => exact absurd ((h3 p).2 hp) (alook_none.1 hl)
    | some v => exact congrArg some (h2.val _ (alook_some hl))
  · unfold madeF
    rw [if_neg (by rw [h]; decide), h1]
    simp only
    rw [if_neg (by omega)]
theorem made_empty (h : (entry M g.start 0).testBit x.length = false) : madeF g x M = (⟨[], -1⟩, 0) := by
  unfold madeF
  rw [if_pos h]
theorem made_ok (hs : Small g) (hx : x.length ≤ 8) : (madeF g x M).2 = 0 := by
  cases h : (entry M g.start 0).testBit x.length
  · rw [made_empty h]
  · obtain ⟨s, _, h2⟩ := made_small hs hx h
    rw [h2]

theorem mem_keysF {s : RS} {p : Part} : p ∈ keysF s ↔ p ∈ keysR s := by unfold keysF keysR; exact List.mem_mergeSort

/-! #### fewer ends, fewer packs -/
def Fewer (M' M : List (List Nat)) : Prop := ∀ n i j, (entry M' n i).testBit j = true → (entry M n i).testBit j = true

theorem aft1_more (h : Fewer M' M) {y : Sym} {i j : Nat} (h1 : (aft1 x M' y i).testBit j = true) : (aft1 x M y i).testBit j = true := by
  obtain ⟨t, n⟩ := y
  cases t
  · rw [aft1_non] at h1 ⊢; exact h _ _ _ h1
  · rw [aft1_term] at h1 ⊢; exact h1
theorem seq_more (h : Fewer M' M) : ∀ (l : List Sym) (f' f : Nat), (∀ i, f'.testBit i = true → f.testBit i = true) → ∀ j, (seqEnds x M' l f').testBit j = true → (seqEnds x M l f).testBit j = true
  | [], f', f, hf, j, hj => hf j hj
  | y :: l, f', f, hf, j, hj => by
    refine seq_more h l (aftTo x M' y f' (x.length + 1)) (aftTo x M y f (x.length + 1)) (fun i hi => ?_) j hj
    obtain ⟨k, hk, h1, h2⟩ := (aftTo_bit ..).1 hi
    exact (aftTo_bit ..).2 ⟨k, hk, hf k h1, aft1_more h h2⟩

theorem flatMap_sub {α β : Type} {f' f : α → List β} : ∀ ps : List α, (∀ p ∈ ps, (f' p).Sublist (f p)) → (ps.flatMap f').Sublist (ps.flatMap f)
  | [], _ => by simp
  | p :: ps, h => by
    rw [List.flatMap_cons, List.flatMap_cons]
    exact (h p (List.mem_cons_self ..)).append (flatMap_sub ps fun q hq => h q (List.mem_cons_of_mem _ hq))

theorem splitU_more (h : Fewer M' M) {rule j : Nat} : ∀ (l : List Sym) (a : Nat) (kids : List Part), (splitU x M' rule j l a kids).Sublist (splitU x M rule j l a kids)
  | [], a, kids => by unfold splitU; exact List.Sublist.refl _
  | y :: l, a, kids => by
    unfold splitU
    refine flatMap_sub _ fun p _ => ?_
    by_cases hc : (aft1 x M' y a).testBit p = true ∧ (seqEnds x M' l (2 ^ p)).testBit j = true
    · rw [if_pos hc, if_pos ⟨aft1_more h hc.1, seq_more h l _ _ (fun _ hi => hi) j hc.2⟩]
      exact splitU_more h l p _
    · rw [if_neg hc]; exact List.nil_sublist _

theorem waysU_more (h : Fewer M' M) (p : Part) : (waysU g x M' p).Sublist (waysU g x M p) := by
  unfold waysU
  split
  · exact List.Sublist.refl _
  · refine flatMap_sub _ fun rn _ => ?_
    unfold ruleU
    by_cases hc : rn.1.l = p.y.n ∧ (seqEnds x M' rn.1.r (2 ^ p.i)).testBit p.j = true
    · rw [if_pos hc, if_pos ⟨hc.1, seq_more h _ _ _ (fun _ hi => hi) _ hc.2⟩]
      exact splitU_more h _ _ _
    · rw [if_neg hc]; exact List.nil_sublist _

theorem reached_more (h : Fewer M' M) {p : Part} (hp : Reached g x M' p) : Reached g x M p := by
  induction hp with
  | root => exact .root
  | kid _ hv hk ih => exact .kid ih ((waysU_more h _).subset hv) hk

/-- each node of the smaller forest is one of the greater, with no more packs -/
theorem forest_less (hs : Small g) (hx : x.length ≤ 8) (h : Fewer M' M) : ∀ n ∈ (madeF g x M').1.nodes, ∃ m ∈ (madeF g x M).1.nodes, m.y = n.y ∧ m.i = n.i ∧ m.j = n.j ∧ n.packs.length ≤ m.packs.length := by
  intro n hn
  cases h0 : (entry M' g.start 0).testBit x.length
  · rw [made_empty h0] at hn; cases hn
  · obtain ⟨s', h1, h2⟩ := made_small hs hx h0
    obtain ⟨s, k1, k2⟩ := made_small hs hx (h _ _ _ h0)
    rw [h2] at hn
    rw [k2]
    simp only [forestF, List.mem_map] at hn ⊢
    obtain ⟨p, hp, rfl⟩ := hn
    have hr := (h1.keys p).1 (mem_keysF.1 hp)
    have hr2 := reached_more h hr
    refine ⟨_, ⟨p, mem_keysF.2 ((k1.keys p).2 hr2), rfl⟩, rfl, rfl, rfl, ?_⟩
    simp only [nodeF, List.length_mergeSort, List.length_map, h1.look p hr, k1.look p hr2, Option.getD_some]
    exact (waysU_more h p).length_le
end
end Go.Proofs.Ytdbkbkopcnkgcaa
