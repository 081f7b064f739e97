import Derived.Test.YtdbkbkopcnkgcaaGreatWoodR
open Go Go.RowKit
namespace Go.Proofs.YtdbkbkopcnkgcaaGreat

/-! ### the forest of a word counts as many trees as mean counts -/
section
variable {g : Gram} {x : List Int} {M : List (List Nat)}
theorem chain_in {ns : List NodeD} : ∀ {l : List Sym} {a j : Nat} {cs : List Int}, ChainN ns l a j cs → ∀ k ∈ cs, ∃ n : Nat, k = n ∧ n < ns.length
  | [], a, j, cs, h, k, hk => by rw [h.1] at hk; simp at hk
  | y :: l, a, j, cs, h, k, hk => by
    obtain ⟨n, m, cs', rfl, hn, _, _, h2⟩ := h
    rcases List.mem_cons.1 hk with rfl | hk
    · exact ⟨n, rfl, (List.getElem?_eq_some_iff.1 hn).1⟩
    · exact chain_in h2 k hk
theorem made_kids (hs : Small g) (hx : x.length ≤ 8) (hM : IsM g x M) (hroot : (entry M g.start 0).testBit x.length = true) : ∀ nd ∈ (madeF g x M).1.nodes, ∀ q ∈ nd.packs, ∀ k ∈ q.kids, 0 ≤ k ∧ k.toNat < (madeF g x M).1.nodes.length := by
  intro nd hnd q hq k hk
  obtain ⟨-, hS⟩ := shape_ok (M := M) hs hx hM hroot
  obtain ⟨r, _, _, hch⟩ := (hS.node nd hnd).pack q hq
  obtain ⟨n, rfl, hn⟩ := chain_in hch k hk
  exact ⟨by omega, by simpa using hn⟩
theorem replicate_getD {α : Type} (n z : Nat) (a : α) : (List.replicate n a).getD z a = a := by
  rw [List.getD_eq_getElem?_getD, List.getElem?_replicate]
  split <;> rfl
theorem made_count (hs : Small g) (hx : x.length ≤ 8) (hM : IsM g x M) (hroot : (entry M g.start 0).testBit x.length = true) : ∃ (rn : Nat) (r : Int × CS), (madeF g x M).1.root = rn ∧ (∃ h : rn < (madeF g x M).1.nodes.length, ((madeF g x M).1.nodes[rn]).j = x.length) ∧ cntF (madeF g x M).1.nodes ((madeF g x M).1.nodes.length + 1) rn ⟨List.replicate (madeF g x M).1.nodes.length 0, List.replicate (madeF g x M).1.nodes.length false⟩ = some r ∧ r.1 = cntU g x M := by
  have hkin : KidsIn (madeF g x M).1.nodes := fun nd h1 q h2 k h3 => (made_kids hs hx hM hroot nd h1 q h2 k h3).2
  obtain ⟨s, h1, h2⟩ := made_small hs hx hroot
  rw [h2] at hkin ⊢
  simp only [forestF] at hkin ⊢
  obtain ⟨n, h3, h4⟩ := idxF_get (mem_keysF.2 ((h1.keys _).2 Reached.root))
  have hn : n < (keysF s).length := (List.getElem?_eq_some_iff.1 h3).1
  have hn2 : n < ((keysF s).map (nodeF (keysF s) s)).length := by rw [List.length_map]; exact hn
  have hcs : CSV ((keysF s).map (nodeF (keysF s) s)) ⟨List.replicate ((keysF s).map (nodeF (keysF s) s)).length 0, List.replicate ((keysF s).map (nodeF (keysF s) s)).length false⟩ := ⟨by simp, by simp, fun z hz => absurd (replicate_getD _ z 0) hz⟩
  obtain ⟨r, k1, k2, _, _⟩ := cnt_val hkin (((keysF s).map (nodeF (keysF s) s)).length + 1) n _ hcs hn2 (fun z hz => by
    have := replicate_getD ((keysF s).map (nodeF (keysF s) s)).length z false
    rw [this] at hz
    cases hz) (by generalize ((keysF s).map (nodeF (keysF s) s)).length = N; generalize List.count true _ = c; omega)
  refine ⟨n, r, h4, ⟨hn2, ?_⟩, k1, ?_⟩
  · simp only [List.getElem_map]
    have : (keysF s)[n] = rootF g x := (List.getElem?_eq_some_iff.1 h3).2
    rw [this]
    rfl
  · rw [k2]
    have e := val_node h1 (p := rootF g x) Reached.root
    rw [h4, Int.toNat_natCast] at e
    rw [e, val_UA rfl]
    unfold cntU
    rw [if_pos hroot]
end
end Go.Proofs.YtdbkbkopcnkgcaaGreat
