import Derived.Test.YtdbkbkopcnkgcaaForK
open Go Go.RowKit
namespace Go.Proofs.Ytdbkbkopcnkgcaa

/-! ### forests without the limit of packs: all ways of a part, as they are -/
section
variable {g : Gram} {x : List Int} {M : List (List Nat)}

def splitU (x : List Int) (M : List (List Nat)) (rule j : Nat) : List Sym → Nat → List Part → List Way
  | [], _, kids => [⟨rule, kids⟩]
  | y :: l, a, kids => (List.range' a (j + 1 - a)).flatMap fun p => if (aft1 x M y a).testBit p = true ∧ (seqEnds x M l (2 ^ p)).testBit j = true then splitU x M rule j l p (kids ++ [⟨y, a, p⟩]) else []
def ruleU (x : List Int) (M : List (List Nat)) (p : Part) (rn : Rule × Nat) : List Way :=
  if rn.1.l = p.y.n ∧ (seqEnds x M rn.1.r (2 ^ p.i)).testBit p.j = true then splitU x M rn.2 p.j rn.1.r p.i [] else []
def waysU (g : Gram) (x : List Int) (M : List (List Nat)) (p : Part) : List Way := if p.y.t = true then [] else g.rules.zipIdx.flatMap (ruleU x M p)

theorem splitF_U {rule j : Nat} : ∀ (l : List Sym) (a : Nat) (kids : List Part) (s : List Way × Nat), s.2 + (splitU x M rule j l a kids).length ≤ maxPacks → splitF x M rule j l a kids s = (s.1 ++ splitU x M rule j l a kids, s.2 + (splitU x M rule j l a kids).length)
  | [], a, kids, s, _ => by rw [splitF_nil]; rfl
  | y :: l, a, kids, s, h => by
    rw [splitF_cons]
    have key : ∀ (ps : List Nat) (s : List Way × Nat), s.2 + (ps.flatMap fun p => if (aft1 x M y a).testBit p = true ∧ (seqEnds x M l (2 ^ p)).testBit j = true then splitU x M rule j l p (kids ++ [⟨y, a, p⟩]) else []).length ≤ maxPacks → ps.foldl (splitAt x M j a y l fun p s => splitF x M rule j l p (kids ++ [⟨y, a, p⟩]) s) s = (s.1 ++ (ps.flatMap fun p => if (aft1 x M y a).testBit p = true ∧ (seqEnds x M l (2 ^ p)).testBit j = true then splitU x M rule j l p (kids ++ [⟨y, a, p⟩]) else []), s.2 + (ps.flatMap fun p => if (aft1 x M y a).testBit p = true ∧ (seqEnds x M l (2 ^ p)).testBit j = true then splitU x M rule j l p (kids ++ [⟨y, a, p⟩]) else []).length) := by
      intro ps
      induction ps with
      | nil => intro s _; simp
      | cons p ps ih =>
        intro s h
        rw [List.flatMap_cons, List.length_append] at h
        rw [List.foldl_cons, List.flatMap_cons, List.length_append]
        by_cases hc : (aft1 x M y a).testBit p = true ∧ (seqEnds x M l (2 ^ p)).testBit j = true
        · rw [if_pos hc] at h ⊢
          have e : splitAt x M j a y l (fun p s => splitF x M rule j l p (kids ++ [⟨y, a, p⟩]) s) s p = (s.1 ++ splitU x M rule j l p (kids ++ [⟨y, a, p⟩]), s.2 + (splitU x M rule j l p (kids ++ [⟨y, a, p⟩])).length) := by
            unfold splitAt
            rw [if_pos ⟨by omega, hc⟩]
            exact splitF_U l p _ s (by omega)
          rw [e, ih _ (by simp only; omega)]
          simp only [List.append_assoc, Nat.add_assoc]
        · rw [if_neg hc] at h ⊢
          have e : splitAt x M j a y l (fun p s => splitF x M rule j l p (kids ++ [⟨y, a, p⟩]) s) s p = s := by
            unfold splitAt
            rw [if_neg fun h2 => hc h2.2]
          rw [List.length_nil, Nat.zero_add] at h
          rw [e, ih _ h]
          simp
    exact key _ s h

theorem rulesF_U {p : Part} (hp : p.y.t = false) {m : Nat} (h : m + (waysU g x M p).length ≤ maxPacks) : rulesF g x M p m = (waysU g x M p, m + (waysU g x M p).length) := by
  unfold rulesF
  unfold waysU at h ⊢
  rw [if_neg (by rw [hp]; decide)] at h ⊢
  have key : ∀ (l : List (Rule × Nat)) (s : List Way × Nat), s.2 + (l.flatMap (ruleU x M p)).length ≤ maxPacks → l.foldl (ruleF x M p) s = (s.1 ++ l.flatMap (ruleU x M p), s.2 + (l.flatMap (ruleU x M p)).length) := by
    intro l
    induction l with
    | nil => intro s _; simp
    | cons rn l ih =>
      intro s h
      rw [List.flatMap_cons, List.length_append] at h
      rw [List.foldl_cons, List.flatMap_cons, List.length_append]
      have e : ruleF x M p s rn = (s.1 ++ ruleU x M p rn, s.2 + (ruleU x M p rn).length) := by
        unfold ruleF
        by_cases hc : rn.1.l = p.y.n ∧ (seqEnds x M rn.1.r (2 ^ p.i)).testBit p.j = true
        · have e2 : ruleU x M p rn = splitU x M rn.2 p.j rn.1.r p.i [] := by unfold ruleU; rw [if_pos hc]
          rw [e2] at h ⊢
          rw [if_pos hc]
          exact splitF_U _ _ _ _ (by omega)
        · have e2 : ruleU x M p rn = [] := by unfold ruleU; rw [if_neg hc]
          rw [if_neg hc, e2]
          simp
      rw [e, ih _ (by simp only; omega)]
      simp only [List.append_assoc, Nat.add_assoc]
  have := key g.rules.zipIdx ([], m) h
  rw [this]
  simp

/-- a step over a list, with what it leaves for each element -/
theorem foldlM_all {α σ : Type} {f : σ → α → Option σ} {P : σ → Prop} {Q : α → σ → Prop} {R : σ → σ → Prop} (hr : ∀ s, R s s) (ht : ∀ a b c, R a b → R b c → R a c) (hm : ∀ a s s1, Q a s → R s s1 → Q a s1) :
    ∀ (l : List α) (s s' : σ), l.foldlM f s = some s' → P s → (∀ s a s1, P s → a ∈ l → f s a = some s1 → P s1 ∧ R s s1 ∧ Q a s1) → P s' ∧ R s s' ∧ ∀ a ∈ l, Q a s'
  | [], s, s', h, hp, _ => by injection h with h; subst h; exact ⟨hp, hr _, by simp⟩
  | a :: l, s, s', h, hp, hf => by
    rw [List.foldlM_cons] at h
    cases h1 : f s a with
    | none => rw [h1] at h; cases h
    | some s1 =>
      rw [h1] at h
      obtain ⟨k1, k2, k3⟩ := hf s a s1 hp (List.mem_cons_self ..) h1
      obtain ⟨e1, e2, e3⟩ := foldlM_all hr ht hm l s1 s' h k1 fun s b s2 hs hb => hf s b s2 hs (List.mem_cons_of_mem _ hb)
      refine ⟨e1, ht _ _ _ k2 e2, fun b hb => ?_⟩
      rcases List.mem_cons.1 hb with rfl | hb
      · exact hm _ _ _ k3 e2
      · exact e3 b hb

def keysR (s : RS) : List Part := s.ways.map (·.1)
/-- the state of reach, without the limit -/
structure RInv (g : Gram) (x : List Int) (M : List (List Nat)) (U : List Part) (s : RS) : Prop where
  nodup : (keysR s).Nodup
  sub : ∀ p ∈ keysR s, p ∈ U
  val : ∀ q ∈ s.ways, q.2 = waysU g x M q.1
  many : s.many = ((keysR s).map fun p => (waysU g x M p).length).sum
/-- what is new is reached, and its kids are there -/
def RStep (g : Gram) (x : List Int) (M : List (List Nat)) (Rch : Part → Prop) (s s' : RS) : Prop := (∀ q ∈ keysR s, q ∈ keysR s') ∧ ∀ q ∈ keysR s', q ∉ keysR s → Rch q ∧ ∀ v ∈ waysU g x M q, ∀ k ∈ v.kids, k ∈ keysR s'

theorem RStep.refl {Rch : Part → Prop} (s : RS) : RStep g x M Rch s s := ⟨fun _ h => h, fun _ h h2 => absurd h h2⟩
theorem RStep.trans {Rch : Part → Prop} {a b c : RS} (h1 : RStep g x M Rch a b) (h2 : RStep g x M Rch b c) : RStep g x M Rch a c := by
  refine ⟨fun q h => h2.1 q (h1.1 q h), fun q h hn => ?_⟩
  by_cases hb : q ∈ keysR b
  · obtain ⟨k1, k2⟩ := h1.2 q hb hn
    exact ⟨k1, fun v hv k hk => h2.1 k (k2 v hv k hk)⟩
  · exact h2.2 q h hb

theorem reachF_U {U : List Part} {Rch : Part → Prop} (hU : ∀ p ∈ U, ∀ v ∈ waysU g x M p, ∀ k ∈ v.kids, k ∈ U) (hR : ∀ p, Rch p → ∀ v ∈ waysU g x M p, ∀ k ∈ v.kids, Rch k)
    (hB : ∀ l : List Part, l.Nodup → (∀ p ∈ l, p ∈ U) → (l.map fun p => (waysU g x M p).length).sum ≤ maxPacks) :
    ∀ (f : Nat) (p : Part) (s s' : RS), reachF g x M f p s = some s' → p ∈ U → Rch p → RInv g x M U s → RInv g x M U s' ∧ RStep g x M Rch s s' ∧ p ∈ keysR s'
  | 0, p, s, s', h, _, _, _ => by rw [reachF] at h; cases h
  | f + 1, p, s, s', h, hp, hrp, hs => by
    have hle := hB _ hs.nodup hs.sub
    rw [← hs.many] at hle
    rw [reachF] at h
    cases hl : alook s.ways p with
    | some v =>
      rw [if_pos (.inl (by rw [hl]; rfl))] at h
      injection h with h
      subst h
      exact ⟨hs, RStep.refl _, List.mem_map_of_mem (f := (·.1)) (alook_some hl)⟩
    | none =>
      rw [if_neg (by rw [hl]; simp; omega)] at h
      have hnk := alook_none.1 hl
      have hnd : (keysR s ++ [p]).Nodup := by
        rw [List.nodup_append]
        exact ⟨hs.nodup, by simp, fun a ha b hb e => by simp at hb; subst hb; subst e; exact hnk ha⟩
      have hsb : ∀ q ∈ keysR s ++ [p], q ∈ U := fun q hq => by
        rcases List.mem_append.1 hq with hq | hq
        · exact hs.sub q hq
        · simp at hq; rw [hq]; exact hp
      have hle2 := hB _ hnd hsb
      rw [List.map_append, List.sum_append, ← hs.many] at hle2
      simp only [List.map_cons, List.map_nil, List.sum_cons, List.sum_nil, Nat.add_zero] at hle2
      have hput : RInv g x M U ⟨aput s.ways p (waysU g x M p), s.many + (waysU g x M p).length⟩ ∧ keysR ⟨aput s.ways p (waysU g x M p), s.many + (waysU g x M p).length⟩ = keysR s ++ [p] := by
        have hk : keysR ⟨aput s.ways p (waysU g x M p), s.many + (waysU g x M p).length⟩ = keysR s ++ [p] := by
          unfold keysR
          simp only
          rw [aput_new hnk, List.map_append]
          rfl
        refine ⟨⟨by rw [hk]; exact hnd, by rw [hk]; exact hsb, fun q hq => ?_, ?_⟩, hk⟩
        · simp only at hq
          rw [aput_new hnk] at hq
          rcases List.mem_append.1 hq with hq | hq
          · exact hs.val q hq
          · simp at hq; rw [hq]
        · rw [hk, List.map_append, List.sum_append, ← hs.many]
          simp
      obtain ⟨hp1, hp2⟩ := hput
      by_cases ht : p.y.t = true
      · rw [if_pos ht] at h
        have hw : waysU g x M p = [] := by unfold waysU; rw [if_pos ht]
        injection h with h
        rw [hw] at hp1 hp2
        simp only [List.length_nil, Nat.add_zero] at hp1 hp2
        subst h
        refine ⟨hp1, ⟨fun q hq => by rw [hp2]; exact List.mem_append_left _ hq, fun q hq hn => ?_⟩, by rw [hp2]; simp⟩
        rw [hp2] at hq
        rcases List.mem_append.1 hq with hq | hq
        · exact absurd hq hn
        · simp at hq
          subst hq
          exact ⟨hrp, by rw [hw]; simp⟩
      · rw [if_neg ht] at h
        rw [rulesF_U (by simpa using ht) hle2] at h
        simp only at h
        obtain ⟨e1, e2, e3⟩ := foldlM_all (P := RInv g x M U) (Q := fun v s => ∀ k ∈ Way.kids v, k ∈ keysR s) (R := RStep g x M Rch) RStep.refl (fun a b c => RStep.trans) (fun v a b hq hr k hk => hr.1 k (hq k hk)) _ _ _ h hp1 fun s1 v s2 hs1 hv h4 =>
          foldlM_all (P := RInv g x M U) (Q := fun k s => k ∈ keysR s) (R := RStep g x M Rch) RStep.refl (fun a b c => RStep.trans) (fun v a b hq hr => hr.1 _ hq) _ _ _ h4 hs1 fun s3 k s4 hs3 hk h5 =>
            reachF_U hU hR hB f k s3 s4 h5 (hU p hp v hv k hk) (hR p hrp v hv k hk) hs3
        have hpk : p ∈ keysR s' := e2.1 p (by rw [hp2]; simp)
        refine ⟨e1, ⟨fun q hq => e2.1 q (by rw [hp2]; exact List.mem_append_left _ hq), fun q hq hn => ?_⟩, hpk⟩
        by_cases hqp : q = p
        · subst hqp
          exact ⟨hrp, e3⟩
        · exact e2.2 q hq (by rw [hp2]; simp; exact ⟨hn, hqp⟩)

/-- the parts that a part is made of, and so on -/
inductive Reached (g : Gram) (x : List Int) (M : List (List Nat)) : Part → Prop
  | root : Reached g x M (rootF g x)
  | kid {p k : Part} {v : Way} : Reached g x M p → v ∈ waysU g x M p → k ∈ v.kids → Reached g x M k
end
end Go.Proofs.Ytdbkbkopcnkgcaa
