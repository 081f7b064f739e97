import Derived.Test.YtdbkbkopcnkgcaaGreatShape
import Derived.Test.YtdbkbkopcnkgcaaGreatWoodA
open Go Go.RowKit
namespace Go.Proofs.YtdbkbkopcnkgcaaGreat

/-! ### the leaves of a forest tell its word -/
section
variable {g : Gram} {x : List Int} {M : List (List Nat)}
theorem drv_cover (hv : Valid g) (hM : IsM g x M) {l : List Sym} {i j : Nat} (h : Drv g x l i j) : i ≤ x.length → ∃ ks, Fit x M l i j ks ∧ ∀ q, i ≤ q → q < j → (∀ k ∈ ks, Reached g x M k) → ∃ t, x[q]? = some t ∧ Reached g x M ⟨⟨true, t⟩, q, q + 1⟩ := by
  have hlow := sound_low hM.2.1
  have hsh : Short x M := sound_short hM.2.1 fun n i h => entry_neg M n i h
  induction h with
  | nil i hi => intro _; exact ⟨[], ⟨rfl, rfl⟩, fun q h1 h2 => by omega⟩
  | @term t l i j hx _ ih =>
    intro hi
    have hil := (List.getElem?_eq_some_iff.1 hx).1
    obtain ⟨ks, hf, hc⟩ := ih (by omega)
    refine ⟨⟨⟨true, t⟩, i, i + 1⟩ :: ks, ⟨i + 1, ks, rfl, (aft1_term ..).2 ⟨hx, rfl⟩, hf⟩, fun q h1 h2 hr => ?_⟩
    by_cases e : q = i
    · subst e
      exact ⟨t, hx, hr _ (List.mem_cons_self ..)⟩
    · exact hc q (by omega) h2 fun k hk => hr k (List.mem_cons_of_mem _ hk)
  | @non n l r i k j hr hn h1 h2 ih1 ih2 =>
    intro hi
    have hle := drv_le h1
    obtain ⟨ks1, hf1, hc1⟩ := ih1 hi
    obtain ⟨ks2, hf2, hc2⟩ := ih2 hle.2
    have hbit : (aft1 x M ⟨false, n⟩ i).testBit k = true := by
      rw [aft1_non]
      exact (ends_iff hM.2.1 hM.2.2 n (by rw [← hn]; exact (hv.ok r hr).l0) i k).2 (.non hr hn h1 (.nil _ hle.2))
    refine ⟨⟨⟨false, n⟩, i, k⟩ :: ks2, ⟨k, ks2, rfl, hbit, hf2⟩, fun q h3 h4 hre => ?_⟩
    by_cases e : q < k
    · refine hc1 q h3 e fun z hz => ?_
      obtain ⟨m, hm, he⟩ := List.getElem_of_mem hr
      have hmem := (mem_waysU (g := g) hsh hlow (p := ⟨⟨false, n⟩, i, k⟩) hi (v := ⟨m, ks1⟩)).2 ⟨rfl, r, by rw [List.getElem?_eq_getElem hm, he], hn, hf1⟩
      exact .kid (hre _ (List.mem_cons_self ..)) hmem hz
    · exact hc2 q (by omega) h4 fun z hz => hre z (List.mem_cons_of_mem _ hz)
/-- each letter of the word is a leaf -/
theorem leaf_reached (hv : Valid g) (hM : IsM g x M) (hroot : (entry M g.start 0).testBit x.length = true) {q : Nat} (hq : q < x.length) : ∃ t, x[q]? = some t ∧ Reached g x M ⟨⟨true, t⟩, q, q + 1⟩ := by
  have hd := hM.2.1 g.start 0 x.length hv.s0 hroot
  obtain ⟨ks, hf, hc⟩ := drv_cover hv hM hd (Nat.zero_le _)
  refine hc q (Nat.zero_le _) hq fun k hk => ?_
  obtain ⟨p, ks', rfl, _, h2⟩ := hf
  obtain ⟨rfl, rfl⟩ := h2
  simp at hk
  subst hk
  exact .root
theorem word_fold {x : List Int} : ∀ (ns : List NodeD) (s : WS), s.w.length = x.length → s.seen.length = x.length → (∀ n ∈ ns, n.y.t = true → x[n.i]? = some n.y.n) → (∀ q : Nat, s.seen[q]? = some true → s.w[q]? = x[q]?) →
    (ns.foldl wordStep s).w.length = x.length ∧ (ns.foldl wordStep s).seen.length = x.length ∧ (∀ q : Nat, (ns.foldl wordStep s).seen[q]? = some true → (ns.foldl wordStep s).w[q]? = x[q]?) ∧ ∀ q : Nat, (s.seen[q]? = some true ∨ ∃ n ∈ ns, n.y.t = true ∧ n.i = q) → q < x.length → (ns.foldl wordStep s).seen[q]? = some true
  | [], s, h1, h2, _, h4 => ⟨h1, h2, h4, fun q h _ => by rcases h with h | ⟨n, hn, _⟩; exact h; simp at hn⟩
  | n :: ns, s, h1, h2, h3, h4 => by
    rw [List.foldl_cons]
    have hs : (wordStep s n).w.length = x.length ∧ (wordStep s n).seen.length = x.length ∧ (∀ q : Nat, (wordStep s n).seen[q]? = some true → (wordStep s n).w[q]? = x[q]?) ∧ ∀ q : Nat, (s.seen[q]? = some true ∨ (n.y.t = true ∧ n.i = q)) → q < x.length → (wordStep s n).seen[q]? = some true := by
      unfold wordStep
      by_cases c : n.y.t = true ∧ n.i < s.w.length
      · rw [if_pos c]
        have hx := h3 n (List.mem_cons_self ..) c.1
        refine ⟨by simp [h1], by simp [h2], fun q hq => ?_, fun q hq hl => ?_⟩
        · simp only [List.getElem?_set] at hq ⊢
          by_cases e : n.i = q
          · subst e
            rw [if_pos rfl, if_pos c.2, hx]
          · rw [if_neg e] at hq ⊢
            exact h4 q hq
        · simp only [List.getElem?_set]
          by_cases e : n.i = q
          · rw [if_pos e, if_pos (by omega)]
          · rw [if_neg e]
            exact hq.resolve_right (fun h => e h.2)
      · rw [if_neg c]
        refine ⟨h1, h2, h4, fun q hq hl => ?_⟩
        rcases hq with hq | ⟨hq, e⟩
        · exact hq
        · exact absurd ⟨hq, by omega⟩ c
    obtain ⟨k1, k2, k3, k4⟩ := word_fold ns (wordStep s n) hs.1 hs.2.1 (fun m hm => h3 m (List.mem_cons_of_mem _ hm)) hs.2.2.1
    refine ⟨k1, k2, k3, fun q hq hl => k4 q ?_ hl⟩
    rcases hq with hq | ⟨m, hm, hmt, hmi⟩
    · exact .inl (hs.2.2.2 q (.inl hq) hl)
    · rcases List.mem_cons.1 hm with rfl | hm
      · exact .inl (hs.2.2.2 q (.inr ⟨hmt, hmi⟩) hl)
      · exact .inr ⟨m, hm, hmt, hmi⟩
/-- the word that the forest's leaves tell is the word -/
theorem word_made (hs : Small g) (hx : x.length ≤ 8) (hM : IsM g x M) (hroot : (entry M g.start 0).testBit x.length = true) : wordF (madeF g x M).1.nodes x.length = ⟨x, List.replicate x.length true⟩ := by
  obtain ⟨-, hS⟩ := shape_ok (M := M) hs hx hM hroot
  have hleaf : ∀ q, q < x.length → ∃ n ∈ (madeF g x M).1.nodes, n.y.t = true ∧ n.i = q := fun q hq => by
    obtain ⟨t, _, hr⟩ := leaf_reached hs.valid hM hroot hq
    obtain ⟨s, h1, h2⟩ := made_small hs hx hroot
    rw [h2]
    exact ⟨_, List.mem_map.2 ⟨_, mem_keysF.2 ((h1.keys _).2 hr), rfl⟩, rfl, rfl⟩
  obtain ⟨h1, h2, h3, h4⟩ := word_fold (x := x) (madeF g x M).1.nodes ⟨List.replicate x.length 0, List.replicate x.length false⟩ (by simp) (by simp) (fun n hn ht => ((hS.node n hn).term ht).1) (fun q hq => by simp [List.getElem?_replicate] at hq)
  have hse : ∀ q, q < x.length → (wordF (madeF g x M).1.nodes x.length).seen[q]? = some true := fun q hq => h4 q (.inr (hleaf q hq)) hq
  have e1 : (wordF (madeF g x M).1.nodes x.length).w = x := by
    apply List.ext_getElem?
    intro q
    by_cases c : q < x.length
    · exact h3 q (hse q c)
    · rw [List.getElem?_eq_none (by show _ ≤ q; rw [show (wordF (madeF g x M).1.nodes x.length).w.length = x.length from h1]; omega), List.getElem?_eq_none (by omega)]
  have e2 : (wordF (madeF g x M).1.nodes x.length).seen = List.replicate x.length true := by
    apply List.ext_getElem?
    intro q
    by_cases c : q < x.length
    · rw [hse q c, List.getElem?_replicate, if_pos c]
    · rw [List.getElem?_eq_none (by show _ ≤ q; rw [show (wordF (madeF g x M).1.nodes x.length).seen.length = x.length from h2]; omega), List.getElem?_eq_none (by simp; omega)]
  generalize wordF (madeF g x M).1.nodes x.length = s at e1 e2
  obtain ⟨a, b⟩ := s
  simp only at e1 e2
  rw [e1, e2]
end
end Go.Proofs.YtdbkbkopcnkgcaaGreat
