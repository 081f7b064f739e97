import Derived.Test.YtdbkbkopcnkgcaaJoinP
open Go Go.RowKit
namespace Go.Proofs.Ytdbkbkopcnkgcaa

/-! ### the plain law of MeanJoined -/
theorem val_perm {α : Type} {W : α → List (List α)} {y : α} {K : List (List α)} (hK : K.Perm (W y)) : valW W y = sumV (valW W) K 0 := by
  rw [valW_eq]
  by_cases h : ∃ k ∈ W y, ∃ a ∈ k, valW W a = -1
  · rw [sumV_inf _ _ h, sumV_inf _ _ (by obtain ⟨k, hk, h2⟩ := h; exact ⟨k, hK.mem_iff.2 hk, h2⟩)]
  · obtain ⟨f, hf⟩ := fin_all W
    have hv : ∀ k ∈ W y, ∀ a ∈ k, valW W a = min (f a : Int) maxCount := fun k hk a ha => by
      by_cases hn : ∃ n, FinT W a n
      · obtain ⟨n, hn⟩ := hn
        rw [valW_fin hn, hf a n hn]
      · exact absurd ⟨k, hk, a, ha, valW_inf hn⟩ h
    have e1 := sumV_fin (W y) 0 hv
    have e2 := sumV_fin K 0 fun k hk => hv k (hK.mem_iff.1 hk)
    rw [show min ((0 : Nat) : Int) maxCount = 0 from rfl] at e1 e2
    rw [e1, e2, sumN_perm hK]

def joinG (g : Gram) : Gram := ⟨g.terms, g.nons + 1, g.nons, g.rules ++ [⟨g.nons, [⟨false, g.start⟩, ⟨false, g.start⟩]⟩]⟩
theorem join_ext {g : Gram} : Ext g (joinG g) [⟨g.nons, [⟨false, g.start⟩, ⟨false, g.start⟩]⟩] := ⟨rfl, by intro r hr; rw [List.mem_singleton] at hr; subst hr; exact Int.le_refl _⟩
theorem join_valid {g : Gram} (hv : Valid g) (h9 : g.nons ≤ 9) (h31 : g.rules.length ≤ 31) : Valid (joinG g) := by
  have hn : ∀ r ∈ g.rules, r.l < g.nons := fun r hr => (hv.ok r hr).l1
  refine ⟨hv.t1, hv.t8, by show 1 ≤ g.nons + 1; have := hv.n1; omega, by show g.nons + 1 ≤ 10; omega, by show 0 ≤ g.nons; have := hv.n1; omega, by show g.nons < g.nons + 1; omega, ?_, fun r hr => ?_, ?_⟩
  · show (g.rules ++ [_]).length ≤ 32
    rw [List.length_append]; simp; omega
  · have hr : r ∈ g.rules ++ [⟨g.nons, [⟨false, g.start⟩, ⟨false, g.start⟩]⟩] := hr
    rcases List.mem_append.1 hr with hr | hr
    · have h := hv.ok r hr
      refine ⟨h.l0, by show r.l < g.nons + 1; have := h.l1; omega, h.len, fun y hy => ?_⟩
      have h2 := h.syms y hy
      exact ⟨h2.n0, h2.nt, fun ht => by show y.n < g.nons + 1; have := h2.nn ht; omega⟩
    · rw [List.mem_singleton] at hr
      subst hr
      refine ⟨by show 0 ≤ g.nons; have := hv.n1; omega, by show g.nons < g.nons + 1; omega, by simp, fun y hy => ?_⟩
      have : y = ⟨false, g.start⟩ := by simpa using hy
      subst this
      exact ⟨hv.s0, fun h => (by cases h), fun _ => by show g.start < g.nons + 1; have := hv.s1; omega⟩
  · show (g.rules ++ [_]).Nodup
    rw [List.nodup_append]
    refine ⟨hv.nodup, by simp, fun a ha b hb e => ?_⟩
    rw [List.mem_singleton] at hb
    have := hn a ha
    rw [e, hb] at this
    exact absurd this (Int.lt_irrefl _)

section
variable {g : Gram} {x : List Int} {M2 : List (List Nat)}
def okJ (g : Gram) (x : List Int) (M2 : List (List Nat)) (p : Nat) : Bool := (entry M2 g.start 0).testBit p && (entry M2 g.start p).testBit x.length
def kidJ (g : Gram) (x : List Int) (p : Nat) : List Part := [⟨⟨false, g.start⟩, 0, p⟩, ⟨⟨false, g.start⟩, p, x.length⟩]
theorem join_perm (hv : Valid g) (hM2 : IsM (joinG g) x M2) : (((List.range (x.length + 1)).filter (okJ g x M2)).map (kidJ g x)).Perm (WU (joinG g) x M2 (rootF (joinG g) x)) := by
  obtain ⟨hs, hl⟩ := ren_short hM2
  have hp : ((((List.range (x.length + 1)).filter (okJ g x M2)).map fun p => (⟨g.rules.length, kidJ g x p⟩ : Way))).Perm (waysU (joinG g) x M2 (rootF (joinG g) x)) := by
    refine (List.perm_ext_iff_of_nodup ?_ waysU_nodup).2 fun v => ⟨fun h => ?_, fun h => ?_⟩
    · refine List.pairwise_map.2 (List.Pairwise.imp (fun {a b} hne e => hne ?_) (List.Pairwise.filter _ List.nodup_range))
      injection e with _ e
      unfold kidJ at e
      injection e with e _
      injection e
    · obtain ⟨p, hp, rfl⟩ := List.mem_map.1 h
      obtain ⟨h1, h2⟩ := List.mem_filter.1 hp
      unfold okJ at h2
      rw [Bool.and_eq_true] at h2
      refine (mem_waysU hs hl (Nat.zero_le _)).2 ⟨rfl, ⟨g.nons, [⟨false, g.start⟩, ⟨false, g.start⟩]⟩, ?_, rfl, ?_⟩
      · show (g.rules ++ [_])[g.rules.length]? = _
        rw [List.getElem?_append_right (Nat.le_refl _)]; simp
      · exact ⟨p, _, rfl, by rw [aft1_non]; exact h2.1, x.length, [], rfl, by rw [aft1_non]; exact h2.2, rfl, rfl⟩
    · obtain ⟨_, r, h2, h3, h4⟩ := (mem_waysU (p := rootF (joinG g) x) hs hl (Nat.zero_le _)).1 h
      have h2 : (g.rules ++ [⟨g.nons, [⟨false, g.start⟩, ⟨false, g.start⟩]⟩])[v.rule]? = some r := h2
      have h3 : r.l = g.nons := h3
      have hge : ¬ v.rule < g.rules.length := fun c => by
        rw [List.getElem?_append_left c] at h2
        have := (hv.ok r (List.mem_of_getElem? h2)).l1
        omega
      rw [List.getElem?_append_right (by omega)] at h2
      have hlt := (List.getElem?_eq_some_iff.1 h2).1
      have hve : v.rule = g.rules.length := by simp at hlt; omega
      rw [hve, Nat.sub_self] at h2
      injection h2 with h2
      subst h2
      obtain ⟨p, ks', e1, b1, p2, ks2, e2, b2, e3, e4⟩ := h4
      have e4 : p2 = x.length := e4
      subst e3
      rw [e4] at e2 b2
      have hp1 := one_short hs b1
      rw [aft1_non] at b1 b2
      refine List.mem_map.2 ⟨p, List.mem_filter.2 ⟨by simp; omega, by unfold okJ; rw [Bool.and_eq_true]; exact ⟨b1, b2⟩⟩, ?_⟩
      obtain ⟨vr, vk⟩ := v
      simp only at hve e1
      rw [hve, e1, e2]
      rfl
  have := hp.map fun v => ntP v.kids
  rw [List.map_map] at this
  exact this

/-- one position of the law's sum -/
def joinS (a b : Nat → Int) (s : Int) (k : Nat) : Int := if a k = 0 ∨ b k = 0 then s else if a k = -1 ∨ b k = -1 ∨ s = -1 then -1 else min (s + min (a k * b k) maxCount) maxCount
theorem valW_v {α : Type} {W : α → List (List α)} (y : α) : CntV (valW W y) := by
  by_cases hf : ∃ n, FinT W y n
  · obtain ⟨n, hn⟩ := hf
    rw [valW_fin hn]
    unfold CntV maxCount
    omega
  · rw [valW_inf hf]; unfold CntV maxCount; omega
theorem mul_one {a : Int} (h : CntV a) : mulC 1 a = a := by
  unfold mulC CntV maxCount at *
  by_cases e : a = -1
  · rw [if_pos (.inl e)]; exact e.symm
  · rw [if_neg (by omega), Int.one_mul]; omega
theorem join_step {a b s : Int} (ha : CntV a) (hb : CntV b) (ha0 : a ≠ 0) (hb0 : b ≠ 0) : (if a = 0 ∨ b = 0 then s else if a = -1 ∨ b = -1 ∨ s = -1 then -1 else min (s + min (a * b) maxCount) maxCount) = addC s (mulC (mulC 1 a) b) := by
  rw [if_neg (by rintro (h | h) <;> contradiction), mul_one ha]
  unfold addC mulC
  unfold CntV at ha hb
  by_cases c : a = -1 ∨ b = -1
  · rw [if_pos (show b = -1 ∨ a = -1 from c.symm), if_pos (show a = -1 ∨ b = -1 ∨ s = -1 by rcases c with c | c; exact .inl c; exact .inr (.inl c)), if_pos (show (-1 : Int) = -1 ∨ s = -1 from .inl rfl)]
  · have hab : 0 < a * b := Int.mul_pos (by omega) (by omega)
    rw [if_neg (show ¬ (b = -1 ∨ a = -1) from fun h => c h.symm)]
    by_cases d : s = -1
    · rw [if_pos (.inr (.inr d)), if_pos (.inr d)]
    · rw [if_neg (by rintro (h | h | h); exact c (.inl h); exact c (.inr h); exact d h), if_neg (by unfold maxCount; rintro (h | h); omega; exact d h)]
theorem foldl_same {α σ : Type} {f f' : σ → α → σ} : ∀ (l : List α) (s : σ), (∀ s a, a ∈ l → f s a = f' s a) → l.foldl f s = l.foldl f' s
  | [], _, _ => rfl
  | a :: l, s, h => by
    rw [List.foldl_cons, List.foldl_cons, h s a (List.mem_cons_self ..)]
    exact foldl_same l _ fun s b hb => h s b (List.mem_cons_of_mem _ hb)
/-- **with a rule N to S S for a new start symbol N a word has as many trees as all pairs of its two parts** -/
theorem join_count (hv : Valid g) (hv2 : Valid (joinG g)) (hM2 : IsM (joinG g) x M2) (a b : Nat → Int) (ha : ∀ k, k ≤ x.length → ∃ M, IsM g (x.take k) M ∧ a k = cntU g (x.take k) M) (hb : ∀ k, k ≤ x.length → ∃ M, IsM g (x.drop k) M ∧ b k = cntU g (x.drop k) M) : cntU (joinG g) x M2 = (List.range (x.length + 1)).foldl (joinS a b) 0 := by
  obtain ⟨hs, hl⟩ := ren_short hM2
  have ho : OkS g.nons ⟨false, g.start⟩ := ⟨hv.s0, fun _ => hv.s1⟩
  have ea : ∀ k, k ≤ x.length → a k = if (entry M2 g.start 0).testBit k = true then valW (WU (joinG g) x M2) ⟨⟨false, g.start⟩, 0, k⟩ else 0 := fun k hk => by
    obtain ⟨M, h1, h2⟩ := ha k hk
    have h3 := sh_count (x := x) (M := M) (M2 := M2) (k := 0) (m := k) join_ext hv (by omega) (by rw [List.drop_zero]; exact h1) hM2
    rw [List.drop_zero] at h3
    rw [h2, h3, Nat.add_zero]
  have eb : ∀ k, k ≤ x.length → b k = if (entry M2 g.start k).testBit x.length = true then valW (WU (joinG g) x M2) ⟨⟨false, g.start⟩, k, x.length⟩ else 0 := fun k hk => by
    obtain ⟨M, h1, h2⟩ := hb k hk
    have hd : (x.drop k).take (x.length - k) = x.drop k := List.take_of_length_le (by rw [List.length_drop]; exact Nat.le_refl _)
    have h3 := sh_count (x := x) (M := M) (M2 := M2) (k := k) (m := x.length - k) join_ext hv (by omega) (by rw [hd]; exact h1) hM2
    rw [hd, Nat.sub_add_cancel hk] at h3
    rw [h2, h3]
  have hne : ∀ i j, (entry M2 g.start i).testBit j = true → valW (WU (joinG g) x M2) ⟨⟨false, g.start⟩, i, j⟩ ≠ 0 := fun i j hb => val_ne hv2 hM2 (p := ⟨⟨false, g.start⟩, i, j⟩) ⟨hv.s0, fun _ => by show g.start < g.nons + 1; have := hv.s1; omega⟩ rfl hb
  have hroot : valW (WU (joinG g) x M2) (rootF (joinG g) x) = (List.range (x.length + 1)).foldl (joinS a b) 0 := by
    rw [val_perm (join_perm hv hM2)]
    unfold sumV
    rw [List.foldl_map, List.foldl_filter]
    refine foldl_same _ _ fun s k hk => ?_
    have hk : k ≤ x.length := by simp at hk; omega
    unfold joinS
    rw [ea k hk, eb k hk]
    unfold okJ
    by_cases h1 : (entry M2 g.start 0).testBit k = true
    · by_cases h2 : (entry M2 g.start k).testBit x.length = true
      · rw [if_pos h1, if_pos h2, if_pos (by rw [h1, h2]; rfl)]
        exact (join_step (valW_v _) (valW_v _) (hne _ _ h1) (hne _ _ h2)).symm
      · rw [if_neg h2, if_neg (by rw [Bool.and_eq_true]; exact fun h => h2 h.2), if_pos (.inr rfl)]
    · rw [if_neg h1, if_neg (by rw [Bool.and_eq_true]; exact fun h => h1 h.1), if_pos (.inl rfl)]
  unfold cntU
  by_cases hr : (entry M2 (joinG g).start 0).testBit x.length = true
  · rw [if_pos hr, hroot]
  · rw [if_neg hr, ← hroot, val_perm (join_perm hv hM2)]
    have : (List.range (x.length + 1)).filter (okJ g x M2) = [] := by
      rw [List.filter_eq_nil_iff]
      intro k _ hk
      unfold okJ at hk
      rw [Bool.and_eq_true] at hk
      refine hr ((ends_iff hM2.2.1 hM2.2.2 (joinG g).start (by show 0 ≤ g.nons; have := hv.n1; omega) 0 x.length).2 ?_)
      have d1 := (ends_iff hM2.2.1 hM2.2.2 g.start hv.s0 0 k).1 hk.1
      have d2 := (ends_iff hM2.2.1 hM2.2.2 g.start hv.s0 k x.length).1 hk.2
      refine .non (r := ⟨g.nons, [⟨false, g.start⟩, ⟨false, g.start⟩]⟩) (List.mem_append_right _ (List.mem_singleton.2 rfl)) rfl ?_ (.nil _ (Nat.le_refl _))
      exact drv_app d1 d2
    rw [this]
    rfl
end
end Go.Proofs.Ytdbkbkopcnkgcaa
