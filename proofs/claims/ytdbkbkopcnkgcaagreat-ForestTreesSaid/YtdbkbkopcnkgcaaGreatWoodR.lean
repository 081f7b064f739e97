import Derived.Test.YtdbkbkopcnkgcaaGreatWoodQ
import Derived.Test.YtdbkbkopcnkgcaaGreatWoodC
open Go Go.RowKit
namespace Go.Proofs.YtdbkbkopcnkgcaaGreat

/-! ### forest.Count's count is the value of its root -/
section
variable {ns : List NodeD}
structure CSV (ns : List NodeD) (s : CS) : Prop where
  lend : s.done.length = ns.length
  leno : s.op.length = ns.length
  val : ∀ z, s.done.getD z 0 ≠ 0 → s.done.getD z 0 = valW (WF ns) z
def KidsIn (ns : List NodeD) : Prop := ∀ nd ∈ ns, ∀ q ∈ nd.packs, ∀ k ∈ q.kids, k.toNat < ns.length
theorem count_set : ∀ (l : List Bool) (n : Nat), n < l.length → l.getD n false = false → (l.set n true).count true = l.count true + 1
  | [], n, h, _ => by simp at h
  | b :: l, 0, _, h => by
    have hb : b = false := by simpa using h
    subst hb
    simp
  | b :: l, n + 1, h, h2 => by
    have ih := count_set l n (by simpa using h) (by simpa using h2)
    rw [List.set_cons_succ, List.count_cons, List.count_cons, ih]
    omega
theorem WF_at {n : Nat} {nd : NodeD} (hn : ns[n]? = some nd) : WF ns n = if nd.y.t = true then [[]] else nd.packs.map fun q => q.kids.map Int.toNat := by
  unfold WF
  rw [hn]
theorem kid_fold {F : Nat → CS → Option (Int × CS)} {op : List Bool} : ∀ (ks : List Int) (p : Int) (s : CS), CSV ns s → s.op = op → (∀ k ∈ ks, ∀ s, CSV ns s → s.op = op → ∃ r, F k.toNat s = some r ∧ r.1 = valW (WF ns) k.toNat ∧ CSV ns r.2 ∧ r.2.op = op) →
    ∃ r, ks.foldlM (kidStep F) (p, s) = some r ∧ r.1 = prodV (valW (WF ns)) (ks.map Int.toNat) p ∧ CSV ns r.2 ∧ r.2.op = op
  | [], p, s, h, ho, _ => ⟨(p, s), rfl, rfl, h, ho⟩
  | k :: ks, p, s, h, ho, hF => by
    obtain ⟨r, h1, h2, h3, h4⟩ := hF k (List.mem_cons_self ..) s h ho
    obtain ⟨r2, k1, k2, k3, k4⟩ := kid_fold ks (mulC p r.1) r.2 h3 h4 fun z hz => hF z (List.mem_cons_of_mem _ hz)
    refine ⟨r2, ?_, ?_, k3, k4⟩
    · rw [List.foldlM_cons]
      have : kidStep F (p, s) k = some (mulC p r.1, r.2) := by unfold kidStep; rw [h1]; rfl
      rw [this]
      exact k1
    · rw [k2, h2]
      rfl
theorem pack_fold {F : Nat → CS → Option (Int × CS)} {op : List Bool} : ∀ (qs : List PackD) (p : Int) (s : CS), CSV ns s → s.op = op → (∀ q ∈ qs, ∀ k ∈ q.kids, ∀ s, CSV ns s → s.op = op → ∃ r, F k.toNat s = some r ∧ r.1 = valW (WF ns) k.toNat ∧ CSV ns r.2 ∧ r.2.op = op) →
    ∃ r, qs.foldlM (packStep F) (p, s) = some r ∧ r.1 = sumV (valW (WF ns)) (qs.map fun q => q.kids.map Int.toNat) p ∧ CSV ns r.2 ∧ r.2.op = op
  | [], p, s, h, ho, _ => ⟨(p, s), rfl, rfl, h, ho⟩
  | q :: qs, p, s, h, ho, hF => by
    obtain ⟨r, h1, h2, h3, h4⟩ := kid_fold q.kids 1 s h ho (hF q (List.mem_cons_self ..))
    obtain ⟨r2, k1, k2, k3, k4⟩ := pack_fold qs (addC p r.1) r.2 h3 h4 fun z hz => hF z (List.mem_cons_of_mem _ hz)
    refine ⟨r2, ?_, ?_, k3, k4⟩
    · rw [List.foldlM_cons]
      have : packStep F (p, s) q = some (addC p r.1, r.2) := by unfold packStep; rw [h1]; rfl
      rw [this]
      exact k1
    · rw [k2, h2]
      rfl
theorem cnt_val (hk : KidsIn ns) : ∀ (f n : Nat) (s : CS), CSV ns s → n < ns.length → (∀ z, s.op.getD z false = true → LtW (WF ns) n z) → ns.length < f + s.op.count true → ∃ r, cntF ns f n s = some r ∧ r.1 = valW (WF ns) n ∧ CSV ns r.2 ∧ r.2.op = s.op
  | 0, n, s, h, _, _, hf => by
    have := List.count_le_length (a := true) (l := s.op)
    have := h.leno
    omega
  | f + 1, n, s, h, hn, hop, hf => by
    have hnd := List.getElem?_eq_getElem hn
    generalize ns[n] = nd at hnd
    have hW := WF_at hnd
    rw [cntF_succ hnd]
    by_cases ht : nd.y.t = true
    · rw [if_pos ht] at hW ⊢
      refine ⟨_, rfl, ?_, h, rfl⟩
      have h1 := FinT.mk (W := WF ns) n (fun _ => 0) (by rw [hW]; intro k hk a ha; simp at hk; subst hk; simp at ha)
      rw [hW] at h1
      have h2 : FinT (WF ns) n 1 := h1
      rw [valW_fin h2]
      unfold maxCount
      rfl
    · rw [if_neg ht] at hW ⊢
      by_cases ho : s.op.getD n false = true
      · rw [if_pos ho]
        refine ⟨_, rfl, ?_, h, rfl⟩
        rw [valW_inf fun ⟨m, hm⟩ => hm.irrefl (hop n ho)]
      · rw [if_neg ho]
        by_cases hd : s.done.getD n 0 ≠ 0
        · rw [if_pos hd]
          exact ⟨_, rfl, h.val n hd, h, rfl⟩
        · rw [if_neg hd]
          have hof : s.op.getD n false = false := by simpa using ho
          have hln : n < s.op.length := by rw [h.leno]; exact hn
          have h0 : CSV ns ⟨s.done, s.op.set n true⟩ := ⟨h.lend, by simp [h.leno], h.val⟩
          obtain ⟨r, h1, h2, h3, h4⟩ := pack_fold (F := cntF ns f) (op := s.op.set n true) nd.packs 0 ⟨s.done, s.op.set n true⟩ h0 rfl fun q hq k hkk s' hs' ho' => by
            have hlt : LtW (WF ns) k.toNat n := .base (k := q.kids.map Int.toNat) (by rw [hW]; exact List.mem_map.2 ⟨q, hq, rfl⟩) (List.mem_map.2 ⟨k, hkk, rfl⟩)
            have := cnt_val hk f k.toNat s' hs' (hk nd (List.mem_of_getElem? hnd) q hq k hkk) (fun z hz => by
              rw [ho'] at hz
              by_cases e : n = z
              · subst e; exact hlt
              · rw [List.getD_eq_getElem?_getD, List.getElem?_set, if_neg e, ← List.getD_eq_getElem?_getD] at hz
                exact hlt.trans (hop z hz)) (by rw [ho', count_set _ _ hln hof]; omega)
            rw [ho'] at this
            exact this
          have hv : r.1 = valW (WF ns) n := by rw [h2, valW_eq, hW]
          refine ⟨(r.1, ⟨r.2.done.set n r.1, r.2.op.set n false⟩), by rw [h1]; rfl, hv, ⟨by simp [h3.lend], by simp [h3.leno], fun z hz => ?_⟩, ?_⟩
          · simp only [List.getD_eq_getElem?_getD, List.getElem?_set] at hz ⊢
            by_cases e : n = z
            · subst e
              rw [if_pos rfl, if_pos (by rw [h3.lend]; exact hn)]
              exact hv
            · rw [if_neg e] at hz ⊢
              have := h3.val z
              rw [List.getD_eq_getElem?_getD] at this
              exact this hz
          · show r.2.op.set n false = s.op
            rw [h4, List.set_set]
            apply List.ext_getElem?
            intro i
            rw [List.getElem?_set]
            by_cases e : n = i
            · subst e
              rw [if_pos rfl, if_pos hln]
              rw [List.getD_eq_getElem?_getD, List.getElem?_eq_getElem hln] at hof
              rw [List.getElem?_eq_getElem hln]
              simpa using hof.symm
            · rw [if_neg e]
end
end Go.Proofs.YtdbkbkopcnkgcaaGreat
