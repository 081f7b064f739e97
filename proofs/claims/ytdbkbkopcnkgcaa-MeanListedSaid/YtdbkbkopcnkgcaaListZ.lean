import Derived.Test.YtdbkbkopcnkgcaaListF
import Derived.Test.YtdbkbkopcnkgcaaTreeN
open Go Go.RowKit
namespace Go.Proofs.Ytdbkbkopcnkgcaa

/-! ### the plain law of MeanListed -/
/-- what the list of the first trees is -/
structure Listed (g : Gram) (x : List Int) (M : List (List Nat)) (ts : List Tr) (ps : List (List Int)) : Prop where
  len : ps.length = ts.length
  all : 0 ≤ cntU g x M → cntU g x M ≤ 100 → (ts.length : Int) = cntU g x M
  many : cntU g x M = -1 ∨ 100 < cntU g x M → ts.length = 100
  few : ts.length ≤ 100
  fit : ∀ i (h : i < ts.length) (h' : i < ps.length), YT g x [⟨false, g.start⟩] 0 [x.length] [ts[i]] ps[i]
  ord : ∀ i (h : i + 1 < ps.length), ¬ ps[i + 1].length < ps[i].length ∧ (ps[i].length = ps[i + 1].length → cmpInts ps[i] ps[i + 1] < 0)
  less : ∀ m, m ≤ 100 → TR g x M m (ts.take m) 0
  hi : ∀ p ∈ ps, p.length ≤ 5000

section
variable {g : Gram} {x : List Int} {M : List (List Nat)}
theorem trees_len {rows : List Rk} (h : ∀ a ∈ rows, ∃ t, a.row = [t]) : (treesOf rows).length = rows.length := by
  unfold treesOf
  induction rows with
  | nil => rfl
  | cons a rows ih =>
    obtain ⟨t, ht⟩ := h a (List.mem_cons_self ..)
    rw [List.flatMap_cons, List.length_append, ih fun b hb => h b (List.mem_cons_of_mem _ hb), ht]
    simp; omega
theorem trees_take {rows : List Rk} (h : ∀ a ∈ rows, ∃ t, a.row = [t]) : ∀ m, treesOf (rows.take m) = (treesOf rows).take m := by
  unfold treesOf
  induction rows with
  | nil => intro m; simp
  | cons a rows ih =>
    intro m
    obtain ⟨t, ht⟩ := h a (List.mem_cons_self ..)
    cases m with
    | zero => simp
    | succ m => rw [List.take_succ_cons, List.flatMap_cons, List.flatMap_cons, ih (fun b hb => h b (List.mem_cons_of_mem _ hb)) m, ht]; rfl
theorem trees_get {rows : List Rk} (h : ∀ a ∈ rows, ∃ t, a.row = [t]) : ∀ i (hi : i < (treesOf rows).length) (hr : i < rows.length), rows[i].row = [(treesOf rows)[i]] := by
  unfold treesOf
  induction rows with
  | nil => intro i _ hr; simp at hr
  | cons a rows ih =>
    intro i hi hr
    obtain ⟨t, ht⟩ := h a (List.mem_cons_self ..)
    have e : (a :: rows).flatMap (·.row) = t :: rows.flatMap (·.row) := by rw [List.flatMap_cons, ht]; rfl
    simp only [e]
    cases i with
    | zero => simpa using ht
    | succ i =>
      simp only [List.getElem_cons_succ]
      exact ih (fun b hb => h b (List.mem_cons_of_mem _ hb)) i (by simpa [e] using hi) (by simpa using hr)
theorem root_fin (hv : Valid g) (hM : IsM g x M) {c : Nat} (h0 : 0 < c) (hc : c ≤ 100) (h : cntU g x M = c) : FinT (waysM g x M) (rootM g x) c := by
  have hy : OkMP g x (rootM g x) := ⟨hv.s0, hv.s1, Nat.zero_le _, Nat.le_refl _⟩
  unfold cntU at h
  split at h
  · have e := val_MU (x := x) hv (sound_low hM.2.1) hy
    have e2 : toP (rootM g x) = rootF g x := rfl
    rw [e2, h] at e
    by_cases hf : ∃ n, FinT (waysM g x M) (rootM g x) n
    · obtain ⟨n, hn⟩ := hf
      rw [valW_fin hn] at e
      have : n = c := by unfold maxCount at e; omega
      exact this ▸ hn
    · rw [valW_inf hf] at e
      omega
  · omega
theorem listed_plain (hv : Valid g) (hx : x.length ≤ 12) (hM : IsM g x M) {ts : List Tr} {err : Int} (h : TR g x M 100 ts err) : err = 2 ∨ err = 0 ∧ ∃ ps, Listed g x M ts ps := by
  rcases h with ⟨h0, rfl, rfl⟩ | ⟨h0, _, f, of', hl, ⟨_, _, rfl⟩ | ⟨hlen, rfl, rfl⟩⟩
  · have h0 : cntU g x M = 0 := h0.resolve_right (by omega)
    exact .inr ⟨rfl, [], rfl, fun _ _ => by rw [h0]; rfl, fun h => by omega, by simp, fun i h => by simp at h, fun i h => by simp at h, fun m _ => .inl ⟨.inl h0, by simp, rfl⟩, by simp⟩
  · exact .inl rfl
  · right
    refine ⟨rfl, ?_⟩
    have hlow : MLow M := sound_low hM.2.1
    have hys : ∀ y ∈ partsR g x M, y.j ≤ x.length := fun y hy => by
      unfold partsR at hy
      exact ((parts_okR (M := M) hv).sub y (List.mem_reverse.1 hy)).2.2.2
    have hok : LOk g x 100 (g.rules.length + 1) of' := loop_inv (P := LOk g x 100 (g.rules.length + 1)) (fun of y hy h => h.set hv hx (Nat.le_refl _) (Nat.le_refl _) hlow (hys y hy)) hl (LOk.nil 100 _)
    generalize hrows : of' (rootM g x) = rows at hlen
    have hlst : Lst (g.rules.length + 1) rows := hrows ▸ hok.lst _
    have hfew : rows.length ≤ 100 := hrows ▸ hok.ok.len _
    have hyt : ∀ z ∈ rows, RkY g x [] [⟨false, g.start⟩] 0 [x.length] z := hrows ▸ hok.y (rootM g x)
    have hnd : ND rows := hrows ▸ hok.nd _
    have hone : ∀ a ∈ rows, ∃ t, a.row = [t] := fun a ha => by
      obtain ⟨p, _, hy⟩ := hyt a ha
      have hlen := hy.fit.len.2
      match hr : a.row, hlen with
      | [t], _ => exact ⟨t, rfl⟩
      | [], h => simp at h
      | _ :: _ :: _, h => simp at h
    have htl := trees_len hone
    have hcnt : cntU g x M ≠ 0 → 0 ≤ cntU g x M → cntU g x M ≤ 100 → (rows.length : Int) ≤ cntU g x M := fun h1 h2 h3 => by
      obtain ⟨c, hc⟩ : ∃ c : Nat, cntU g x M = c := ⟨(cntU g x M).toNat, by omega⟩
      have := few_trees hv hM (root_fin hv hM (c := c) (by omega) (by omega) hc) (Nat.zero_le _) (Nat.le_refl _) (l := rows) hyt hnd
      omega
    have hge : min (if cntU g x M = -1 then (100 : Int) else cntU g x M) 100 ≤ rows.length := by
      have : ¬ (rows.length : Int) < min (if cntU g x M = -1 then ((100 : Nat) : Int) else cntU g x M) ((100 : Nat) : Int) := hlen
      have e : ((100 : Nat) : Int) = 100 := rfl
      rw [e] at this
      omega
    refine ⟨rows.map (·.pre), ?_, ?_, ?_, ?_, ?_, ?_, ?_, ?_⟩
    · rw [List.length_map, htl]
    · intro h1 h2
      rw [htl]
      have := hcnt h0 h1 h2
      rw [if_neg (by omega)] at hge
      omega
    · intro h1
      rw [htl]
      rcases h1 with h1 | h1
      · rw [if_pos h1] at hge; omega
      · rw [if_neg (by omega)] at hge; omega
    · rw [htl]; exact hfew
    · intro i h1 h2
      have hr : i < rows.length := by rw [← htl]; exact h1
      obtain ⟨p, e1, hy⟩ := hyt rows[i] (List.getElem_mem hr)
      rw [List.nil_append] at e1
      rw [List.getElem_map, e1, ← trees_get hone i h1 hr]
      exact hy
    · intro i h1
      rw [List.length_map] at h1
      rw [List.getElem_map, List.getElem_map]
      have h2 : V (g.rules.length + 1) rows[i] ≤ V (g.rules.length + 1) rows[i + 1] := (List.pairwise_iff_getElem.1 hlst.srt) i (i + 1) (by omega) h1 (by omega)
      have h3 : rows[i].pre ≠ rows[i + 1].pre := (List.pairwise_iff_getElem.1 hnd) i (i + 1) (by omega) h1 (by omega)
      have ga := hlst.good _ (List.getElem_mem (show i < rows.length by omega))
      have gb := hlst.good _ (List.getElem_mem h1)
      have h4 : vd (g.rules.length + 1) rows[i].pre < vd (g.rules.length + 1) rows[i + 1].pre := by
        rcases Nat.lt_or_eq_of_le h2 with h5 | h5
        · exact h5
        · exact absurd (vd_inj ga.dig gb.dig h5) h3
      have h5 := vd_len ga.dig gb.dig (Nat.le_of_lt h4)
      exact ⟨by omega, fun e => (vd_lex ga.dig gb.dig e).2 h4⟩
    · intro m hm
      by_cases hm0 : m = 0
      · subst hm0
        exact .inl ⟨.inr rfl, by simp, rfl⟩
      · obtain ⟨f2, of2, hl2⟩ := loop_ends g x M m (partsR g x M)
        have e := loop_take hv hx hlow (k := m) (n := 100) (by omega) hm (Nat.le_refl _) (Nat.le_refl _) hys f _ of' hl (LOk.nil 100 _) f2 of2 (by
          have : takeO m (fun _ => ([] : List Rk)) = fun _ => [] := by funext y; unfold takeO; simp
          rw [this]; exact hl2)
        refine .inr ⟨h0, hm0, f2, of2, hl2, .inr ⟨?_, ?_, rfl⟩⟩
        · rw [e]
          show ¬ (((of' (rootM g x)).take m).length : Int) < _
          rw [hrows, List.length_take]
          by_cases c : cntU g x M = -1
          · rw [if_pos c] at hge ⊢
            omega
          · rw [if_neg c] at hge ⊢
            omega
        · rw [e]
          show _ = treesOf ((of' (rootM g x)).take m)
          rw [hrows, trees_take hone]
    · intro p hp
      obtain ⟨a, ha, rfl⟩ := List.mem_map.1 hp
      have h1 := (hlst.good a ha).len
      have h2 := (hlst.good a ha).hi
      omega
end
end Go.Proofs.Ytdbkbkopcnkgcaa
