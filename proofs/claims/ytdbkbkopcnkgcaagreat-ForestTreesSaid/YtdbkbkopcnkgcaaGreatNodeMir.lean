import Derived.Test.YtdbkbkopcnkgcaaGreatRevInt
import Derived.Test.YtdbkbkopcnkgcaaGreatShape
import Derived.Test.YtdbkbkopcnkgcaaGreatWorld
import Derived.Test.YtdbkbkopcnkgcaaGreatForO
import Derived.Test.YtdbkbkopcnkgcaaGreatOwn
open Go Go.RowKit
namespace Go.Proofs.YtdbkbkopcnkgcaaGreat

/-! ### rules that the law has made, each right side apart -/
structure RulesAt (w : World) (base : Nat) (v : Value) (l : List Rule) (xs : List Value) : Prop where
  own : w.ownsRow base 99 2 v l.length xs
  at_ : ∀ k (h : k < l.length), xs[k * 2]? = some (.int .i64 l[k].l) ∧ ∃ A c, xs[k * 2 + 1]? = some (.slice A l[k].r.length c) ∧ l[k].r.length ≤ c ∧ ((A = none ∧ l[k].r = [] ∧ c = 0) ∨ ∃ b, A = some ⟨b, 0, none⟩ ∧ base ≤ b ∧ SymsAt w b l[k].r)
  dist : DistR xs l.length

theorem RulesAt.ofOwn {w : World} {base : Nat} {v : Value} {l : List Rule} {xs : List Value} (h : OwnRules w base v l xs) (hd : DistR xs l.length) : RulesAt w base v l xs := by
  refine ⟨h.own, fun k hk => ?_, hd⟩
  obtain ⟨h1, A, c, h2, h3⟩ := h.at_ k hk
  refine ⟨h1, A, c, h2, own_cap h3, ?_⟩
  rcases h3.2 with ⟨he, hn⟩ | ⟨g', cap, cur, he, _⟩
  · injection he with e1 e2 e3
    exact .inl ⟨e1, List.eq_nil_of_length_eq_zero hn, e3⟩
  · injection he with e1 e2 e3
    subst e1
    obtain ⟨cs, hcs, hb⟩ := own_typed h3 g' rfl
    refine .inr ⟨g', rfl, hb, cs, hcs, fun z hz => ?_⟩
    obtain ⟨s1, s2⟩ := symCells_get l[k].r z hz
    have k1 := h3.cells (g := g') rfl _ _ s1
    have k2 := h3.cells (g := g') rfl _ _ s2
    rw [add_lit0, cell_of_row w g' _ cs _ _ hcs] at k1 k2
    exact ⟨k1, k2⟩

section
variable {w w' : World} {base : Nat} {v : Value} {l : List Rule} {xs : List Value}
theorem RulesAt.keep (h : RulesAt w base v l xs) (hk : ∀ b, base ≤ b → b < w.heap.size → w'.heap[b]? = w.heap[b]?) : RulesAt w' base v l xs :=
  ⟨own_same h.own fun k e => hk k (own_base' h.own k e) (own_lt0 h.own k e), fun k hk2 => by
    obtain ⟨h1, A, c, h2, h3, h4⟩ := h.at_ k hk2
    refine ⟨h1, A, c, h2, h3, ?_⟩
    rcases h4 with h4 | ⟨b, e, hb, h4⟩
    · exact .inl h4
    · have hlt : b < w.heap.size := by obtain ⟨cs, hcs, _⟩ := h4; exact blk_lt hcs
      exact .inr ⟨b, e, hb, h4.same (hk b hb hlt)⟩, h.dist⟩
theorem RulesAt.below (h : RulesAt w base v l xs) (hb : Below w.heap.size w w') : RulesAt w' base v l xs := h.keep fun b _ hlt => hb.block b hlt

theorem syms_ne_rules (h : w.ownsRow base 99 2 v l.length xs) {b : Nat} {L : List Sym} (hb : SymsAt w b L) : v.ownBlock ≠ some b := fun e => by
  obtain ⟨cs', h1, _⟩ := own_typed h b e
  obtain ⟨cs, h2, _⟩ := hb
  rw [h1] at h2
  injection h2 with h2
  injection h2 with _ h2
  cases h2

/-- the right side of one rule is written anew, in its own block -/
theorem RulesAt.write (h : RulesAt w base v l xs) {q b c : Nat} {s' : List Sym} (hq : q < l.length) (hA : xs[q * 2 + 1]? = some (.slice (some ⟨b, 0, none⟩) l[q].r.length c)) (hs : SymsAt w b l[q].r) (hs' : SymsAt w' b s') (hl : s'.length = l[q].r.length) (ha : Away w.heap.size (fun k => k = b) w w') : RulesAt w' base v (l.set q ⟨l[q].l, s'⟩) xs := by
  refine ⟨by rw [List.length_set]; exact own_same h.own fun k e => ha.block k (own_lt0 h.own k e) fun e2 => syms_ne_rules h.own hs (e2 ▸ e), fun k hk => ?_, by rw [List.length_set]; exact h.dist⟩
  rw [List.length_set] at hk
  obtain ⟨h1, A, c', h2, h3, h4⟩ := h.at_ k hk
  rw [List.getElem_set]
  by_cases e : q = k
  · subst e
    rw [if_pos rfl]
    rw [hA] at h2
    injection h2 with h2
    injection h2 with e1 e2 e3
    subst e1
    subst e3
    refine ⟨h1, _, _, by rw [hl]; exact hA, by rw [hl]; exact h3, .inr ?_⟩
    rcases h4 with ⟨h4, _⟩ | ⟨b', e4, hb, _⟩
    · cases h4
    · injection e4 with e4
      injection e4 with e4
      subst e4
      exact ⟨b, rfl, hb, hs'⟩
  · rw [if_neg e]
    refine ⟨h1, A, c', h2, h3, ?_⟩
    rcases h4 with h4 | ⟨b', rfl, hb, h4⟩
    · exact .inl h4
    · refine .inr ⟨b', rfl, hb, h4.same (ha.block b' (by obtain ⟨cs, hcs, _⟩ := h4; exact blk_lt hcs) fun e2 => ?_)⟩
      subst e2
      have g1 : (xs.getD (q * 2 + 1) undef).ownBlock = some b' := by rw [List.getD_eq_getElem?_getD, hA]; rfl
      have g2 : (xs.getD (k * 2 + 1) undef).ownBlock = some b' := by rw [List.getD_eq_getElem?_getD, h2]; rfl
      rcases Nat.lt_or_ge q k with hlt | hge
      · exact h.dist q k hlt hk b' g1 g2
      · exact h.dist k q (by omega) hq b' g2 g1
theorem RulesAt.isSl (h : RulesAt w base v l xs) (hsm : ∀ r ∈ l, r.r.length ≤ 9223372036854775807) : IsSl Elt.rule (fun b => base ≤ b) w v l := by
  have ho := h.own
  have hm := own_max ho
  obtain ⟨A, c, rfl⟩ := own_form ho
  refine ⟨A, c, rfl, hm, fun k hk => ?_⟩
  obtain ⟨b, cap, he, hb1, hb2⟩ := ho.form (by omega)
  injection he with he1 he2 he3
  subst he1
  obtain ⟨h1, A', c', h2, h3, h4⟩ := h.at_ k hk
  have k1 := ho.cells (g := b) rfl _ _ h1
  have k2 := ho.cells (g := b) rfl _ _ h2
  rw [add_lit0] at k1 k2
  have hsl : IsSl Elt.sym (fun b => base ≤ b) w (.slice A' l[k].r.length c') l[k].r := by
    rcases h4 with ⟨rfl, h4, _⟩ | ⟨b', rfl, hb, h4⟩
    · rw [h4]; exact ⟨none, c', rfl, by simp, fun k hk => absurd hk (by simp)⟩
    · exact h4.isSl _ hb c' (hsm _ (List.getElem_mem hk))
  refine ⟨b, 0, rfl, hb1, cell_lt k1, ⟨hb1, ?_⟩, ⟨hb1, A', c', ?_, h3, hsl⟩⟩
  · show w.cell? ⟨b, 0 + k * 2, none⟩ = _
    rw [Nat.zero_add]; exact k1
  · show w.cell? ⟨b, 0 + k * 2 + 1, none⟩ = _
    rw [Nat.zero_add]; exact k2
/-- the cells of a rule -/
theorem RulesAt.cellAt {A : Option Addr} {n c : Nat} (h : RulesAt w base (.slice A n c) l xs) {k : Nat} (hk : k < l.length) : ∃ b, A = some ⟨b, 0, none⟩ ∧ base ≤ b ∧ w.cell? ⟨b, k * 2, none⟩ = some (.int .i64 l[k].l) ∧ ∃ A' c', xs[k * 2 + 1]? = some (.slice A' l[k].r.length c') ∧ w.cell? ⟨b, k * 2 + 1, none⟩ = some (.slice A' l[k].r.length c') ∧ ((A' = none ∧ l[k].r = [] ∧ c' = 0) ∨ ∃ b', A' = some ⟨b', 0, none⟩ ∧ base ≤ b' ∧ SymsAt w b' l[k].r) := by
  obtain ⟨b, cap, he, hb1, hb2⟩ := h.own.form (by omega)
  injection he with he1 he2 he3
  subst he1
  obtain ⟨h1, A', c', h2, h3, h4⟩ := h.at_ k hk
  have k1 := h.own.cells (g := b) rfl _ _ h1
  have k2 := h.own.cells (g := b) rfl _ _ h2
  rw [add_lit0] at k1 k2
  exact ⟨b, rfl, hb1, k1, A', c', h2, k2, h4⟩
end

/-! ### parlkeep3.mirrored -/
def mirQ (l : List Rule) (q : Nat) : List Rule := (l.take q).map mirR ++ l.drop q
theorem mirQ_len {l : List Rule} {q : Nat} (h : q ≤ l.length) : (mirQ l q).length = l.length := by unfold mirQ; simp; omega
theorem mirQ_get {l : List Rule} {q : Nat} (h : q < l.length) : (mirQ l q)[q]'(by rw [mirQ_len (by omega)]; exact h) = l[q] := by
  unfold mirQ
  rw [List.getElem_append_right (by simp; omega)]
  simp [Nat.min_eq_left (Nat.le_of_lt h)]
theorem mirQ_set {l : List Rule} {q : Nat} (h : q < l.length) : (mirQ l q).set q (mirR l[q]) = mirQ l (q + 1) := by
  unfold mirQ
  rw [List.set_append_right _ _ (by simp; omega)]
  have e : q - ((l.take q).map mirR).length = 0 := by simp; omega
  rw [e, List.drop_eq_getElem_cons h, List.set_cons_zero, List.take_succ_eq_append_getElem h, List.map_append]
  simp

end Go.Proofs.YtdbkbkopcnkgcaaGreat

open Go Go.RowKit
namespace Go.Proofs.YtdbkbkopcnkgcaaGreat

/-! ### slices.ContainsFunc over nodes -/
section
variable {F : Nat → Prop} {id : FuncId} {caps : Array Value}

end

end Go.Proofs.YtdbkbkopcnkgcaaGreat

open Go Go.RowKit
namespace Go.Proofs.YtdbkbkopcnkgcaaGreat

/-! ### parlkeep3.packs, and the closure of ForestMirrored -/
theorem made_packs {g : Gram} {x : List Int} {M : List (List Nat)} (hs : Small g) (hx : x.length ≤ 8) : ((madeF g x M).1.nodes.map fun n => n.packs.length).sum ≤ maxPacks := by
  cases h : (entry M g.start 0).testBit x.length
  · rw [made_empty h]; simp
  · obtain ⟨s, h1, h2⟩ := made_small hs hx h
    rw [h2]
    simp only [forestF, List.map_map]
    have hkey : ∀ p, p ∈ keysF s ↔ p ∈ keysR s := fun p => mem_keysF
    have e : (keysF s).map ((fun n : NodeD => n.packs.length) ∘ nodeF (keysF s) s) = (keysF s).map fun q => (waysU g x M q).length :=
      List.map_congr_left fun p hp => by
        have hr := (h1.keys p).1 (mem_keysF.1 hp)
        show (nodeF (keysF s) s p).packs.length = _
        unfold nodeF; rw [h1.look p hr]; simp
    rw [e]
    refine packs_few hs (by unfold keysF; exact (List.mergeSort_perm _ _).nodup_iff.2 h1.nodup) fun p hp => ?_
    obtain ⟨_, _, h3, h4⟩ := of_partsF (h1.ok p ((h1.keys p).1 (mem_keysF.1 hp)))
    omega

theorem sum_take_le : ∀ (l : List Nat) (k : Nat), (l.take k).sum ≤ l.sum
  | [], k => by simp
  | a :: l, 0 => by simp
  | a :: l, k + 1 => by simp [sum_take_le l k]
theorem sum_take_succ : ∀ (l : List Nat) (k : Nat) (h : k < l.length), (l.take (k + 1)).sum = (l.take k).sum + l[k]
  | [], k, h => by simp at h
  | a :: l, 0, h => by simp
  | a :: l, k + 1, h => by
    rw [List.take_succ_cons, List.take_succ_cons, List.sum_cons, List.sum_cons, sum_take_succ l k (by simpa using h), List.getElem_cons_succ, Nat.add_assoc]

end Go.Proofs.YtdbkbkopcnkgcaaGreat
