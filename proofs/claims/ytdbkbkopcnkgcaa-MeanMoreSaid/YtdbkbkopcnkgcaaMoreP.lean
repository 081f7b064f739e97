import Derived.Test.YtdbkbkopcnkgcaaJoinP
open Go Go.RowKit
namespace Go.Proofs.Ytdbkbkopcnkgcaa

/-! ### the plain law of MeanMore -/
def moreG (g : Gram) (r : Rule) : Gram := ⟨g.terms, g.nons, g.start, g.rules ++ [r]⟩
theorem more_valid {g : Gram} {r : Rule} (hv : Valid g) (hr : OkRule g r) (hn : r ∉ g.rules) (h31 : g.rules.length ≤ 31) : Valid (moreG g r) := by
  refine ⟨hv.t1, hv.t8, hv.n1, hv.n10, hv.s0, hv.s1, ?_, fun q hq => ?_, ?_⟩
  · show (g.rules ++ [r]).length ≤ 32
    rw [List.length_append]; simp; omega
  · have hq : q ∈ g.rules ++ [r] := hq
    have h : OkRule g q := by
      rcases List.mem_append.1 hq with hq | hq
      · exact hv.ok q hq
      · rw [List.mem_singleton] at hq; rw [hq]; exact hr
    exact ⟨h.l0, h.l1, h.len, fun y hy => ⟨(h.syms y hy).n0, (h.syms y hy).nt, (h.syms y hy).nn⟩⟩
  · show (g.rules ++ [r]).Nodup
    rw [List.nodup_append]
    exact ⟨hv.nodup, by simp, fun a ha b hb e => by rw [List.mem_singleton] at hb; rw [e, hb] at ha; exact hn ha⟩
section
variable {g : Gram} {r : Rule} {x : List Int} {M M2 : List (List Nat)}
theorem more_drv {l : List Sym} {i j : Nat} (h : Drv g x l i j) : Drv (moreG g r) x l i j := by
  induction h with
  | nil i h => exact .nil _ h
  | term h _ ih => exact .term h ih
  | non hr hn _ _ ih1 ih2 => exact .non (List.mem_append_left _ hr) hn ih1 ih2
theorem more_fewer (hM : IsM g x M) (hM2 : IsM (moreG g r) x M2) : Fewer M M2 := fun n i j h => by
  by_cases h0 : 0 ≤ n
  · exact (ends_iff hM2.2.1 hM2.2.2 n h0 i j).2 (more_drv ((ends_iff hM.2.1 hM.2.2 n h0 i j).1 h))
  · rw [entry_neg M n i (by omega)] at h
    rw [entry_neg M2 n i (by omega)]
    exact (ends_iff hM2.2.1 hM2.2.2 0 (Int.le_refl _) i j).2 (more_drv ((ends_iff hM.2.1 hM.2.2 0 (Int.le_refl _) i j).1 h))
theorem more_ways (hM : IsM g x M) (hM2 : IsM (moreG g r) x M2) (p : Part) : (WU g x M p).Sublist (WU (moreG g r) x M2 p) := by
  unfold WU
  refine List.Sublist.map _ ((waysU_more (more_fewer hM hM2) p).trans ?_)
  unfold waysU
  split
  · exact List.Sublist.refl _
  · show (g.rules.zipIdx.flatMap _).Sublist ((g.rules ++ [r]).zipIdx.flatMap _)
    rw [List.zipIdx_append, List.flatMap_append]
    exact List.sublist_append_left _ _
theorem sumN_sub {α : Type} {f f2 : α → Nat} {K K2 : List (List α)} (h : K.Sublist K2) (hf : ∀ k ∈ K, prodN f k ≤ prodN f2 k) : sumN f K ≤ sumN f2 K2 := by
  induction h with
  | slnil => exact Nat.le_refl _
  | @cons l l' a _ ih =>
    show _ ≤ prodN f2 a + sumN f2 l'
    have := ih hf
    omega
  | @cons_cons l l' a _ ih =>
    show prodN f a + sumN f l ≤ prodN f2 a + sumN f2 l'
    have h1 := hf a (List.mem_cons_self ..)
    have h2 := ih fun k hk => hf k (List.mem_cons_of_mem _ hk)
    omega
theorem prodN_mono {α : Type} {f f2 : α → Nat} : ∀ (k : List α), (∀ a ∈ k, f a ≤ f2 a) → prodN f k ≤ prodN f2 k
  | [], _ => Nat.le_refl _
  | a :: k, h => by
    show f a * prodN f k ≤ f2 a * prodN f2 k
    exact Nat.mul_le_mul (h a (List.mem_cons_self ..)) (prodN_mono k fun b hb => h b (List.mem_cons_of_mem _ hb))
theorem fin_sub {α : Type} {W W2 : α → List (List α)} (hs : ∀ y, (W y).Sublist (W2 y)) {y : α} {n : Nat} (h : FinT W2 y n) : ∃ m, FinT W y m ∧ m ≤ n := by
  induction h with
  | mk y f hf ih =>
    obtain ⟨f1, h1⟩ := fin_all W
    have hk : ∀ k ∈ W y, ∀ a ∈ k, FinT W a (f1 a) ∧ f1 a ≤ f a := fun k hk a ha => by
      obtain ⟨m, h2, h3⟩ := ih k ((hs y).subset hk) a ha
      rw [h1 a m h2]
      exact ⟨h2, h3⟩
    exact ⟨sumN f1 (W y), .mk y f1 fun k hk' a ha => (hk k hk' a ha).1, sumN_sub (hs y) fun k hk' => prodN_mono k fun a ha => (hk k hk' a ha).2⟩
/-- **another rule takes no tree away** -/
theorem more_count (hM : IsM g x M) (hM2 : IsM (moreG g r) x M2) : cntU (moreG g r) x M2 = -1 ∨ (cntU g x M ≠ -1 ∧ cntU g x M ≤ cntU (moreG g r) x M2) := by
  have hf := more_fewer hM hM2
  have hval : valW (WU (moreG g r) x M2) (rootF g x) = -1 ∨ (valW (WU g x M) (rootF g x) ≠ -1 ∧ valW (WU g x M) (rootF g x) ≤ valW (WU (moreG g r) x M2) (rootF g x) ∧ 0 ≤ valW (WU (moreG g r) x M2) (rootF g x)) := by
    by_cases h : ∃ n, FinT (WU (moreG g r) x M2) (rootF g x) n
    · obtain ⟨n, hn⟩ := h
      obtain ⟨m, hm, hmn⟩ := fin_sub (more_ways hM hM2) hn
      rw [valW_fin hn, valW_fin hm]
      unfold maxCount
      right
      omega
    · exact .inl (valW_inf h)
  have e : rootF (moreG g r) x = rootF g x := rfl
  unfold cntU
  rw [e]
  by_cases h2 : (entry M2 (moreG g r).start 0).testBit x.length = true
  · rw [if_pos h2]
    by_cases h1 : (entry M g.start 0).testBit x.length = true
    · rw [if_pos h1]
      rcases hval with h | h
      · exact .inl h
      · exact .inr ⟨h.1, h.2.1⟩
    · rw [if_neg h1]
      rcases hval with h | h
      · exact .inl h
      · exact .inr ⟨by decide, h.2.2⟩
  · rw [if_neg h2, if_neg (show ¬ (entry M g.start 0).testBit x.length = true from fun h1 => h2 (hf _ _ _ h1))]
    exact .inr ⟨by decide, Int.le_refl _⟩
end
end Go.Proofs.Ytdbkbkopcnkgcaa
