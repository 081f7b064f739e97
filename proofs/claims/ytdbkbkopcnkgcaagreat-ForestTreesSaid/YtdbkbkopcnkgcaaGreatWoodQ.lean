import Derived.Test.YtdbkbkopcnkgcaaGreatWoodP
import Derived.Test.YtdbkbkopcnkgcaaGreatMeanQ
open Go Go.RowKit
namespace Go.Proofs.YtdbkbkopcnkgcaaGreat

/-! ### the count of a node of the forest is the count of its part -/
section
variable {g : Gram} {x : List Int} {M : List (List Nat)}
/-- the ways of a part with all kids; a terminal has one way without kids -/
def WA (g : Gram) (x : List Int) (M : List (List Nat)) (p : Part) : List (List Part) := if p.y.t = true then [[]] else (waysU g x M p).map (·.kids)
theorem fin_term {p : Part} (h : p.y.t = true) : FinT (WA g x M) p 1 := by
  have e : WA g x M p = [[]] := by unfold WA; rw [if_pos h]
  have := FinT.mk (W := WA g x M) p (fun _ => 0) (by rw [e]; intro k hk a ha; simp at hk; subst hk; simp at ha)
  rw [e] at this
  exact this
theorem prodN_nt {f f' : Part → Nat} : ∀ (ks : List Part), (∀ k ∈ ks, k.y.t = true → f' k = 1) → (∀ k ∈ ks, k.y.t = false → f' k = f k) → prodN f' ks = prodN f (ntP ks)
  | [], _, _ => rfl
  | k :: ks, h1, h2 => by
    have ih := prodN_nt ks (fun z hz => h1 z (List.mem_cons_of_mem _ hz)) fun z hz => h2 z (List.mem_cons_of_mem _ hz)
    show f' k * prodN f' ks = prodN f (ntP (k :: ks))
    unfold ntP
    rw [List.filter_cons]
    cases hk : k.y.t
    · rw [h2 k (List.mem_cons_self ..) hk, ih]
      rfl
    · rw [h1 k (List.mem_cons_self ..) hk, ih, Nat.one_mul]
      rfl
theorem sumN_nt {f f' : Part → Nat} : ∀ (vs : List Way), (∀ v ∈ vs, ∀ k ∈ v.kids, k.y.t = true → f' k = 1) → (∀ v ∈ vs, ∀ k ∈ v.kids, k.y.t = false → f' k = f k) → sumN f' (vs.map (·.kids)) = sumN f (vs.map fun v => ntP v.kids)
  | [], _, _ => rfl
  | v :: vs, h1, h2 => by
    show prodN f' v.kids + sumN f' (vs.map (·.kids)) = prodN f (ntP v.kids) + sumN f (vs.map fun v => ntP v.kids)
    rw [prodN_nt v.kids (h1 v (List.mem_cons_self ..)) (h2 v (List.mem_cons_self ..)), sumN_nt vs (fun u hu => h1 u (List.mem_cons_of_mem _ hu)) fun u hu => h2 u (List.mem_cons_of_mem _ hu)]
theorem mem_ntP {ks : List Part} {k : Part} (hk : k ∈ ks) (ht : k.y.t = false) : k ∈ ntP ks := by
  unfold ntP
  rw [List.mem_filter]
  exact ⟨hk, by rw [ht]; rfl⟩
theorem fin_UA {p : Part} {n : Nat} (h : FinT (WU g x M) p n) : p.y.t = false → FinT (WA g x M) p n := by
  induction h with
  | mk p f hf ih =>
    intro ht
    have e : WA g x M p = (waysU g x M p).map (·.kids) := by unfold WA; rw [if_neg (by rw [ht]; decide)]
    have hm : ∀ v ∈ waysU g x M p, ntP v.kids ∈ WU g x M p := fun v hv => List.mem_map.2 ⟨v, hv, rfl⟩
    have := FinT.mk (W := WA g x M) p (fun k => if k.y.t = true then 1 else f k) (by
      rw [e]
      intro k hk a ha
      obtain ⟨v, hv, rfl⟩ := List.mem_map.1 hk
      cases hat : a.y.t
      · rw [if_neg (by decide)]
        exact ih _ (hm v hv) a (mem_ntP ha hat) hat
      · rw [if_pos rfl]
        exact fin_term hat)
    rw [e, sumN_nt (f := f) (waysU g x M p) (fun v _ k _ hk => if_pos hk) (fun v _ k _ hk => if_neg (by rw [hk]; decide))] at this
    exact this
theorem fin_AU {p : Part} {n : Nat} (h : FinT (WA g x M) p n) : p.y.t = false → FinT (WU g x M) p n := by
  induction h with
  | mk p f hf ih =>
    intro ht
    have e : WA g x M p = (waysU g x M p).map (·.kids) := by unfold WA; rw [if_neg (by rw [ht]; decide)]
    rw [e] at hf ih ⊢
    have hm : ∀ v ∈ waysU g x M p, v.kids ∈ (waysU g x M p).map (·.kids) := fun v hv => List.mem_map.2 ⟨v, hv, rfl⟩
    have := FinT.mk (W := WU g x M) p f (by
      intro k hk a ha
      obtain ⟨v, hv, rfl⟩ := List.mem_map.1 hk
      have ha2 := List.mem_filter.1 ha
      have hat : a.y.t = false := by simpa using ha2.2
      exact ih _ (hm v hv) a ha2.1 hat)
    rw [sumN_nt (f := f) (f' := f) (waysU g x M p) (fun v hv k hk hkt => ((hf _ (hm v hv) k hk).uniq 1 (fin_term hkt))) (fun _ _ _ _ _ => rfl)]
    exact this
theorem val_UA {p : Part} (ht : p.y.t = false) : valW (WA g x M) p = valW (WU g x M) p := by
  by_cases h : ∃ n, FinT (WU g x M) p n
  · obtain ⟨n, hn⟩ := h
    rw [valW_fin hn, valW_fin (fin_UA hn ht)]
  · rw [valW_inf h, valW_inf fun ⟨n, hn⟩ => h ⟨n, fin_AU hn ht⟩]

/-- the ways of a node, by the numbers of nodes -/
def WF (ns : List NodeD) (n : Nat) : List (List Nat) := match ns[n]? with
  | none => []
  | some nd => if nd.y.t = true then [[]] else nd.packs.map fun q => q.kids.map Int.toNat
theorem val_node {s : RS} (h1 : MadeU g x M s) {p : Part} (hp : Reached g x M p) : valW (WF ((keysF s).map (nodeF (keysF s) s))) (idxF (keysF s) p).toNat = valW (WA g x M) p := by
  refine valW_sim (W := WA g x M) (W' := WF ((keysF s).map (nodeF (keysF s) s))) (φ := fun p => (idxF (keysF s) p).toNat) (P := Reached g x M) (fun y hy k hk a ha => ?_) (fun y hy => ?_) hp
  · unfold WA at hk
    split at hk
    · simp at hk; subst hk; simp at ha
    · obtain ⟨v, hv, rfl⟩ := List.mem_map.1 hk
      exact .kid hy hv ha
  · obtain ⟨n, h3, h4⟩ := idxF_get (mem_keysF.2 ((h1.keys y).2 hy))
    refine ⟨List.map fun p => (idxF (keysF s) p).toNat, ?_, fun k _ => List.Perm.refl _⟩
    have e : WF ((keysF s).map (nodeF (keysF s) s)) (idxF (keysF s) y).toNat = if y.y.t = true then [[]] else (nodeF (keysF s) s y).packs.map fun q => q.kids.map Int.toNat := by
      unfold WF
      rw [h4, Int.toNat_natCast, List.getElem?_map, h3]
      rfl
    rw [e]
    unfold WA
    by_cases ht : y.y.t = true
    · rw [if_pos ht, if_pos ht]
      exact List.Perm.refl _
    · rw [if_neg ht, if_neg ht]
      have hpk : (nodeF (keysF s) s y).packs = ((waysU g x M y).map (packF (keysF s))).mergeSort packLe := by
        show (((alook s.ways y).getD []).map (packF (keysF s))).mergeSort packLe = _
        rw [h1.look y hy]
        rfl
      rw [hpk]
      refine List.Perm.trans ?_ ((List.mergeSort_perm _ _).symm.map _)
      rw [List.map_map, List.map_map]
      refine List.Perm.of_eq (List.map_congr_left fun v _ => ?_)
      show v.kids.map _ = ((v.kids.map (idxF (keysF s))).map Int.toNat)
      rw [List.map_map]
      rfl
end
end Go.Proofs.YtdbkbkopcnkgcaaGreat
