import Derived.Test.YtdbkbkopcnkgcaaGreatForL
import Derived.Test.YtdbkbkopcnkgcaaGreatMakeW
import Derived.Test.YtdbkbkopcnkgcaaGreatForMN
open Go Go.RowKit
namespace Go.Proofs.YtdbkbkopcnkgcaaGreat

/-! ### forests without the limit of packs: all ways of a part, as they are -/
section
variable {g : Gram} {x : List Int} {M : List (List Nat)}

def splitU (x : List Int) (M : List (List Nat)) (rule j : Nat) : List Sym → Nat → List Part → List Way
  | [], _, kids => [⟨rule, kids⟩]
  | y :: l, a, kids => (List.range' a (j + 1 - a)).flatMap fun p => if (aft1 x M y a).testBit p = true ∧ (seqEnds x M l (2 ^ p)).testBit j = true then splitU x M rule j l p (kids ++ [⟨y, a, p⟩]) else []
def ruleU (x : List Int) (M : List (List Nat)) (p : Part) (rn : Rule × Nat) : List Way :=
  if rn.1.l = p.y.n ∧ (seqEnds x M rn.1.r (2 ^ p.i)).testBit p.j = true then splitU x M rn.2 p.j rn.1.r p.i [] else []
def waysU (g : Gram) (x : List Int) (M : List (List Nat)) (p : Part) : List Way := if p.y.t = true then [] else g.rules.zipIdx.flatMap (ruleU x M p)

theorem splitF_U {rule j : Nat} : ∀ (l : List Sym) (a : Nat) (kids : List Part) (s : List Way × Nat), s.2 + (splitU x M rule j l a kids).length ≤ maxPacks → splitF x M rule j l a kids s = (s.1 ++ splitU x M rule j l a kids, s.2 + (splitU x M rule j l a kids).length)
  | [], a, kids, s, _ => by rw [splitF_nil]; rfl
  | y :: l, a, kids, s, h => by
    rw [splitF_cons]
    have key : ∀ (ps : List Nat) (s : List Way × Nat), s.2 + (ps.flatMap fun p => if (aft1 x M y a).testBit p = true ∧ (seqEnds x M l (2 ^ p)).testBit j = true then splitU x M rule j l p (kids ++ [⟨y, a, p⟩]) else []).length ≤ maxPacks → ps.foldl (splitAt x M j a y l fun p s => splitF x M rule j l p (kids ++ [⟨y, a, p⟩]) s) s = (s.1 ++ (ps.flatMap fun p => if (aft1 x M y a).testBit p = true ∧ (seqEnds x M l (2 ^ p)).testBit j = true then splitU x M rule j l p (kids ++ [⟨y, a, p⟩]) else []), s.2 + (ps.flatMap fun p => if (aft1 x M y a).testBit p = true ∧ (seqEnds x M l (2 ^ p)).testBit j = true then splitU x M rule j l p (kids ++ [⟨y, a, p⟩]) else []).length) := by
      intro ps
      induction ps with
      | nil => intro s _; simp
      | cons p ps ih =>
        intro s h
        rw [List.flatMap_cons, List.length_append] at h
        rw [List.foldl_cons, List.flatMap_cons, List.length_append]
        by_cases hc : (aft1 x M y a).testBit p = true ∧ (seqEnds x M l (2 ^ p)).testBit j = true
        · rw [if_pos hc] at h ⊢
          have e : splitAt x M j a y l (fun p s => splitF x M rule j l p (kids ++ [⟨y, a, p⟩]) s) s p = (s.1 ++ splitU x M rule j l p (kids ++ [⟨y, a, p⟩]), s.2 + (splitU x M rule j l p (kids ++ [⟨y, a, p⟩])).length) := by
            unfold splitAt
            rw [if_pos ⟨by omega, hc⟩]
            exact splitF_U l p _ s (by omega)
          rw [e, ih _ (by simp only; omega)]
          simp only [List.append_assoc, Nat.add_assoc]
        · rw [if_neg hc] at h ⊢
          have e : splitAt x M j a y l (fun p s => splitF x M rule j l p (kids ++ [⟨y, a, p⟩]) s) s p = s := by
            unfold splitAt
            rw [if_neg fun h2 => hc h2.2]
          rw [List.length_nil, Nat.zero_add] at h
          rw [e, ih _ h]
          simp
    exact key _ s h

theorem rulesF_U {p : Part} (hp : p.y.t = false) {m : Nat} (h : m + (waysU g x M p).length ≤ maxPacks) : rulesF g x M p m = (waysU g x M p, m + (waysU g x M p).length) := by
  unfold rulesF
  unfold waysU at h ⊢
  rw [if_neg (by rw [hp]; decide)] at h ⊢
  have key : ∀ (l : List (Rule × Nat)) (s : List Way × Nat), s.2 + (l.flatMap (ruleU x M p)).length ≤ maxPacks → l.foldl (ruleF x M p) s = (s.1 ++ l.flatMap (ruleU x M p), s.2 + (l.flatMap (ruleU x M p)).length) := by
    intro l
    induction l with
    | nil => intro s _; simp
    | cons rn l ih =>
      intro s h
      rw [List.flatMap_cons, List.length_append] at h
      rw [List.foldl_cons, List.flatMap_cons, List.length_append]
      have e : ruleF x M p s rn = (s.1 ++ ruleU x M p rn, s.2 + (ruleU x M p rn).length) := by
        unfold ruleF
        by_cases hc : rn.1.l = p.y.n ∧ (seqEnds x M rn.1.r (2 ^ p.i)).testBit p.j = true
        · have e2 : ruleU x M p rn = splitU x M rn.2 p.j rn.1.r p.i [] := by unfold ruleU; rw [if_pos hc]
          rw [e2] at h ⊢
          rw [if_pos hc]
          exact splitF_U _ _ _ _ (by omega)
        · have e2 : ruleU x M p rn = [] := by unfold ruleU; rw [if_neg hc]
          rw [if_neg hc, e2]
          simp
      rw [e, ih _ (by simp only; omega)]
      simp only [List.append_assoc, Nat.add_assoc]
  have := key g.rules.zipIdx ([], m) h
  rw [this]
  simp

/-- a step over a list, with what it leaves for each element -/
theorem foldlM_all {α σ : Type} {f : σ → α → Option σ} {P : σ → Prop} {Q : α → σ → Prop} {R : σ → σ → Prop} (hr : ∀ s, R s s) (ht : ∀ a b c, R a b → R b c → R a c) (hm : ∀ a s s1, Q a s → R s s1 → Q a s1) :
    ∀ (l : List α) (s s' : σ), l.foldlM f s = some s' → P s → (∀ s a s1, P s → a ∈ l → f s a = some s1 → P s1 ∧ R s s1 ∧ Q a s1) → P s' ∧ R s s' ∧ ∀ a ∈ l, Q a s'
  | [], s, s', h, hp, _ => by injection h with h; subst h; exact ⟨hp, hr _, by simp⟩
  | a :: l, s, s', h, hp, hf => by
    rw [List.foldlM_cons] at h
    cases h1 : f s a with
    | none => rw [h1] at h; cases h
    | some s1 =>
      rw [h1] at h
      obtain ⟨k1, k2, k3⟩ := hf s a s1 hp (List.mem_cons_self ..) h1
      obtain ⟨e1, e2, e3⟩ := foldlM_all hr ht hm l s1 s' h k1 fun s b s2 hs hb => hf s b s2 hs (List.mem_cons_of_mem _ hb)
      refine ⟨e1, ht _ _ _ k2 e2, fun b hb => ?_⟩
      rcases List.mem_cons.1 hb with rfl | hb
      · exact hm _ _ _ k3 e2
      · exact e3 b hb

def keysR (s : RS) : List Part := s.ways.map (·.1)
/-- the state of reach, without the limit -/
structure RInv (g : Gram) (x : List Int) (M : List (List Nat)) (U : List Part) (s : RS) : Prop where
  nodup : (keysR s).Nodup
  sub : ∀ p ∈ keysR s, p ∈ U
  val : ∀ q ∈ s.ways, q.2 = waysU g x M q.1
  many : s.many = ((keysR s).map fun p => (waysU g x M p).length).sum
/-- what is new is reached, and its kids are there -/
def RStep (g : Gram) (x : List Int) (M : List (List Nat)) (Rch : Part → Prop) (s s' : RS) : Prop := (∀ q ∈ keysR s, q ∈ keysR s') ∧ ∀ q ∈ keysR s', q ∉ keysR s → Rch q ∧ ∀ v ∈ waysU g x M q, ∀ k ∈ v.kids, k ∈ keysR s'

theorem RStep.refl {Rch : Part → Prop} (s : RS) : RStep g x M Rch s s := ⟨fun _ h => h, fun _ h h2 => absurd h h2⟩
theorem RStep.trans {Rch : Part → Prop} {a b c : RS} (h1 : RStep g x M Rch a b) (h2 : RStep g x M Rch b c) : RStep g x M Rch a c := by
  refine ⟨fun q h => h2.1 q (h1.1 q h), fun q h hn => ?_⟩
  by_cases hb : q ∈ keysR b
  · obtain ⟨k1, k2⟩ := h1.2 q hb hn
    exact ⟨k1, fun v hv k hk => h2.1 k (k2 v hv k hk)⟩
  · exact h2.2 q h hb

theorem reachF_U {U : List Part} {Rch : Part → Prop} (hU : ∀ p ∈ U, ∀ v ∈ waysU g x M p, ∀ k ∈ v.kids, k ∈ U) (hR : ∀ p, Rch p → ∀ v ∈ waysU g x M p, ∀ k ∈ v.kids, Rch k)
    (hB : ∀ l : List Part, l.Nodup → (∀ p ∈ l, p ∈ U) → (l.map fun p => (waysU g x M p).length).sum ≤ maxPacks) :
    ∀ (f : Nat) (p : Part) (s s' : RS), reachF g x M f p s = some s' → p ∈ U → Rch p → RInv g x M U s → RInv g x M U s' ∧ RStep g x M Rch s s' ∧ p ∈ keysR s'
  | 0, p, s, s', h, _, _, _ => by rw [reachF] at h; cases h
  | f + 1, p, s, s', h, hp, hrp, hs => by
    have hle := hB _ hs.nodup hs.sub
    rw [← hs.many] at hle
    rw [reachF] at h
    cases hl : alook s.ways p with
    | some v =>
      rw [if_pos (.inl (by rw [hl]; rfl))] at h
      injection h with h
      subst h
      exact ⟨hs, RStep.refl _, List.mem_map_of_mem (f := (·.1)) (alook_some hl)⟩
    | none =>
      rw [if_neg (by rw [hl]; simp; omega)] at h
      have hnk := alook_none.1 hl
      have hnd : (keysR s ++ [p]).Nodup := by
        rw [List.nodup_append]
        exact ⟨hs.nodup, by simp, fun a ha b hb e => by simp at hb; subst hb; subst e; exact hnk ha⟩
      have hsb : ∀ q ∈ keysR s ++ [p], q ∈ U := fun q hq => by
        rcases List.mem_append.1 hq with hq | hq
        · exact hs.sub q hq
        · simp at hq; rw [hq]; exact hp
      have hle2 := hB _ hnd hsb
      rw [List.map_append, List.sum_append, ← hs.many] at hle2
      simp only [List.map_cons, List.map_nil, List.sum_cons, List.sum_nil, Nat.add_zero] at hle2
      have hput : RInv g x M U ⟨aput s.ways p (waysU g x M p), s.many + (waysU g x M p).length⟩ ∧ keysR ⟨aput s.ways p (waysU g x M p), s.many + (waysU g x M p).length⟩ = keysR s ++ [p] := by
        have hk : keysR ⟨aput s.ways p (waysU g x M p), s.many + (waysU g x M p).length⟩ = keysR s ++ [p] := by
          unfold keysR
          simp only
          rw [aput_new hnk, List.map_append]
          rfl
        refine ⟨⟨by rw [hk]; exact hnd, by rw [hk]; exact hsb, fun q hq => ?_, ?_⟩, hk⟩
        · simp only at hq
          rw [aput_new hnk] at hq
          rcases List.mem_append.1 hq with hq | hq
          · exact hs.val q hq
          · simp at hq; rw [hq]
        · rw [hk, List.map_append, List.sum_append, ← hs.many]
          simp
      obtain ⟨hp1, hp2⟩ := hput
      by_cases ht : p.y.t = true
      · rw [if_pos ht] at h
        have hw : waysU g x M p = [] := by unfold waysU; rw [if_pos ht]
        injection h with h
        rw [hw] at hp1 hp2
        simp only [List.length_nil, Nat.add_zero] at hp1 hp2
        subst h
        refine ⟨hp1, ⟨fun q hq => by rw [hp2]; exact List.mem_append_left _ hq, fun q hq hn => ?_⟩, by rw [hp2]; simp⟩
        rw [hp2] at hq
        rcases List.mem_append.1 hq with hq | hq
        · exact absurd hq hn
        · simp at hq
          subst hq
          exact ⟨hrp, by rw [hw]; simp⟩
      · rw [if_neg ht] at h
        rw [rulesF_U (by simpa using ht) hle2] at h
        simp only at h
        obtain ⟨e1, e2, e3⟩ := foldlM_all (P := RInv g x M U) (Q := fun v s => ∀ k ∈ Way.kids v, k ∈ keysR s) (R := RStep g x M Rch) RStep.refl (fun a b c => RStep.trans) (fun v a b hq hr k hk => hr.1 k (hq k hk)) _ _ _ h hp1 fun s1 v s2 hs1 hv h4 =>
          foldlM_all (P := RInv g x M U) (Q := fun k s => k ∈ keysR s) (R := RStep g x M Rch) RStep.refl (fun a b c => RStep.trans) (fun v a b hq hr => hr.1 _ hq) _ _ _ h4 hs1 fun s3 k s4 hs3 hk h5 =>
            reachF_U hU hR hB f k s3 s4 h5 (hU p hp v hv k hk) (hR p hrp v hv k hk) hs3
        have hpk : p ∈ keysR s' := e2.1 p (by rw [hp2]; simp)
        refine ⟨e1, ⟨fun q hq => e2.1 q (by rw [hp2]; exact List.mem_append_left _ hq), fun q hq hn => ?_⟩, hpk⟩
        by_cases hqp : q = p
        · subst hqp
          exact ⟨hrp, e3⟩
        · exact e2.2 q hq (by rw [hp2]; simp; exact ⟨hn, hqp⟩)

/-- the parts that a part is made of, and so on -/
inductive Reached (g : Gram) (x : List Int) (M : List (List Nat)) : Part → Prop
  | root : Reached g x M (rootF g x)
  | kid {p k : Part} {v : Way} : Reached g x M p → v ∈ waysU g x M p → k ∈ v.kids → Reached g x M k
end
end Go.Proofs.YtdbkbkopcnkgcaaGreat

open Go Go.RowKit
namespace Go.Proofs.YtdbkbkopcnkgcaaGreat

/-! ### short words have few packs: the limit is never met -/
theorem flatMap_one {α β : Type} [DecidableEq α] {f : α → List β} {j : α} (hj : (f j).length ≤ 1) : ∀ ps : List α, ps.Nodup → (∀ p ∈ ps, p ≠ j → f p = []) → (ps.flatMap f).length ≤ 1
  | [], _, _ => by simp
  | p :: ps, hn, h => by
    obtain ⟨h1, h2⟩ := List.nodup_cons.1 hn
    rw [List.flatMap_cons, List.length_append]
    by_cases e : p = j
    · subst e
      have : ps.flatMap f = [] := by
        rw [List.flatMap_eq_nil_iff]
        exact fun q hq => h q (List.mem_cons_of_mem _ hq) fun e => h1 (e ▸ hq)
      rw [this]
      simpa using hj
    · rw [h p (List.mem_cons_self ..) e, List.length_nil, Nat.zero_add]
      exact flatMap_one hj ps h2 fun q hq => h q (List.mem_cons_of_mem _ hq)

theorem flatMap_len {α β : Type} {f : α → List β} {b : Nat} : ∀ ps : List α, (∀ p ∈ ps, (f p).length ≤ b) → (ps.flatMap f).length ≤ ps.length * b
  | [], _ => by simp
  | p :: ps, h => by
    rw [List.flatMap_cons, List.length_append, List.length_cons, Nat.succ_mul]
    have := h p (List.mem_cons_self ..)
    have := flatMap_len ps fun q hq => h q (List.mem_cons_of_mem _ hq)
    omega

section
variable {g : Gram} {x : List Int} {M : List (List Nat)}

theorem splitU_len {rule j : Nat} : ∀ (l : List Sym) (a : Nat) (kids : List Part), (splitU x M rule j l a kids).length ≤ (j + 1 - a) ^ (l.length - 1)
  | [], a, kids => by simp [splitU]
  | [y], a, kids => by
    unfold splitU
    simp only [List.length_cons, List.length_nil, Nat.zero_add, Nat.sub_self, Nat.pow_zero]
    refine flatMap_one (j := j) ?_ _ List.nodup_range' fun p _ hp => ?_
    · split
      · unfold splitU; simp
      · simp
    · rw [if_neg]
      rintro ⟨_, h2⟩
      unfold seqEnds at h2
      rw [List.foldl_nil, Nat.testBit_two_pow] at h2
      exact hp (of_decide_eq_true h2)
  | y :: z :: l, a, kids => by
    have ih := fun p k => splitU_len (z :: l) p k (rule := rule) (j := j)
    unfold splitU
    have h1 := flatMap_len (f := fun p => if (aft1 x M y a).testBit p = true ∧ (seqEnds x M (z :: l) (2 ^ p)).testBit j = true then splitU x M rule j (z :: l) p (kids ++ [⟨y, a, p⟩]) else []) (b := (j + 1 - a) ^ l.length) (List.range' a (j + 1 - a)) (fun p hp => by
      split
      · refine Nat.le_trans (ih _ _) ?_
        rw [List.mem_range'_1] at hp
        exact Nat.pow_le_pow_left (by omega) _
      · simp)
    refine Nat.le_trans h1 ?_
    rw [List.length_range', List.length_cons, List.length_cons, Nat.add_sub_cancel, Nat.pow_succ, Nat.mul_comm]
    exact Nat.le_refl _

def sqP (p : Part) : Nat := (p.j + 1 - p.i) ^ 2
theorem ruleU_len {p : Part} {rn : Rule × Nat} (h3 : rn.1.r.length ≤ 3) : (ruleU x M p rn).length ≤ sqP p := by
  unfold ruleU sqP
  split
  · rename_i hc
    by_cases h0 : p.j + 1 - p.i = 0
    · cases hr : rn.1.r with
      | nil =>
        rw [hr] at hc
        have := hc.2
        unfold seqEnds at this
        rw [List.foldl_nil, Nat.testBit_two_pow] at this
        have := of_decide_eq_true this
        omega
      | cons y l => unfold splitU; rw [h0]; simp
    · exact Nat.le_trans (splitU_len _ _ _) (Nat.pow_le_pow_right (by omega) (by omega))
  · simp

theorem sum_le {α : Type} {f h : α → Nat} : ∀ l : List α, (∀ a ∈ l, f a ≤ h a) → (l.map f).sum ≤ (l.map h).sum
  | [], _ => Nat.le_refl _
  | a :: l, hl => by
    simp only [List.map_cons, List.sum_cons]
    have := hl a (List.mem_cons_self ..)
    have := sum_le l fun b hb => hl b (List.mem_cons_of_mem _ hb)
    omega
theorem sum_const {α : Type} (b : Nat) : ∀ l : List α, (l.map fun _ => b).sum = l.length * b
  | [] => by simp
  | a :: l => by simp only [List.map_cons, List.sum_cons, List.length_cons, Nat.succ_mul]; rw [sum_const b l]; omega
theorem sum_add {α : Type} (f h : α → Nat) : ∀ l : List α, (l.map fun a => f a + h a).sum = (l.map f).sum + (l.map h).sum
  | [] => rfl
  | a :: l => by simp only [List.map_cons, List.sum_cons]; rw [sum_add f h l]; omega
theorem sum_swap {α β : Type} (f : α → β → Nat) (m : List β) : ∀ l : List α, (l.map fun a => (m.map (f a)).sum).sum = (m.map fun b => (l.map fun a => f a b).sum).sum
  | [] => by simp [sum_const]
  | a :: l => by
    simp only [List.map_cons, List.sum_cons]
    rw [sum_swap f m l, sum_add]
theorem sum_filter {α : Type} (c : α → Bool) (f : α → Nat) : ∀ l : List α, (l.map fun a => if c a = true then f a else 0).sum = ((l.filter c).map f).sum
  | [] => by simp
  | a :: l => by
    simp only [List.map_cons, List.sum_cons, List.filter_cons]
    rw [sum_filter c f l]
    by_cases h : c a = true
    · simp [h]
    · simp [h]
theorem sum_erase {α : Type} [DecidableEq α] (f : α → Nat) {a : α} : ∀ m : List α, a ∈ m → (m.map f).sum = f a + ((m.erase a).map f).sum
  | [], h => by cases h
  | b :: m, h => by
    by_cases e : b = a
    · subst e; rw [List.erase_cons_head]; rfl
    · have hm : a ∈ m := by
        rcases List.mem_cons.1 h with h | h
        · exact absurd h.symm e
        · exact h
      rw [List.erase_cons_tail (by simpa using e)]
      simp only [List.map_cons, List.sum_cons]
      rw [sum_erase f m hm]
      omega
theorem sum_sub {α : Type} [DecidableEq α] (f : α → Nat) : ∀ l m : List α, l.Nodup → (∀ a ∈ l, a ∈ m) → (l.map f).sum ≤ (m.map f).sum
  | [], _, _, _ => by simp
  | a :: l, m, h, hs => by
    have ha := hs a (List.mem_cons_self ..)
    have ih := sum_sub f l (m.erase a) (List.nodup_cons.1 h).2 fun b hb => by
      have hne : b ≠ a := fun e => (List.nodup_cons.1 h).1 (e ▸ hb)
      exact (List.mem_erase_of_ne hne).2 (hs b (List.mem_cons_of_mem _ hb))
    rw [sum_erase f m ha]
    simp only [List.map_cons, List.sum_cons]
    omega

theorem ways_len (hs : Small g) {p : Part} : (waysU g x M p).length ≤ (g.rules.map fun r => if decide (p.y = ⟨false, r.l⟩) = true then sqP p else 0).sum := by
  unfold waysU
  split
  · simp
  · rename_i ht
    have ht : p.y.t = false := by simpa using ht
    rw [List.length_flatMap]
    have h1 : (g.rules.map fun r => if decide (p.y = ⟨false, r.l⟩) = true then sqP p else 0) = g.rules.zipIdx.map fun rn => if decide (p.y = ⟨false, rn.1.l⟩) = true then sqP p else 0 := by
      rw [show (fun rn : Rule × Nat => if decide (p.y = ⟨false, rn.1.l⟩) = true then sqP p else 0) = (fun r : Rule => if decide (p.y = ⟨false, r.l⟩) = true then sqP p else 0) ∘ (fun rn : Rule × Nat => rn.1) from rfl, ← List.map_map, List.zipIdx_map_fst]
    rw [h1]
    refine sum_le _ fun rn hrn => ?_
    by_cases hc : rn.1.l = p.y.n
    · have hp : p.y = ⟨false, rn.1.l⟩ := by
        have h2 : p.y = ⟨p.y.t, p.y.n⟩ := rfl
        rw [h2, ht, hc]
      rw [if_pos (by simpa using hp)]
      exact ruleU_len (hs.l3 _ (List.fst_mem_of_mem_zipIdx hrn))
    · unfold ruleU
      rw [if_neg fun h => hc h.1]
      simp

def pairsY (y : Sym) : List Part := (List.range 9).flatMap fun i => (List.range 9).map fun j => ⟨y, i, j⟩
theorem pairsY_sum (y : Sym) : ((pairsY y).map sqP).sum = 825 := by
  have h : (pairsY y).map sqP = (List.range 9).flatMap fun i => (List.range 9).map fun j => (j + 1 - i) ^ 2 := by
    unfold pairsY
    rw [List.map_flatMap]
    refine congrArg (fun f => List.flatMap f (List.range 9)) (funext fun i => ?_)
    rw [List.map_map]
    rfl
  rw [h]
  decide
theorem sum_sqs {l : List Part} (hn : l.Nodup) (h8 : ∀ p ∈ l, p.i ≤ 8 ∧ p.j ≤ 8) (y : Sym) : ((l.filter fun p => decide (p.y = y)).map sqP).sum ≤ 825 := by
  refine Nat.le_trans (sum_sub sqP (l.filter fun p => decide (p.y = y)) (pairsY y) (hn.filter _) (fun p hp => ?_)) (Nat.le_of_eq (pairsY_sum y))
  rw [List.mem_filter] at hp
  have h2 := h8 p hp.1
  have h3 : p.y = y := by simpa using hp.2
  unfold pairsY
  rw [List.mem_flatMap]
  refine ⟨p.i, by simp; omega, ?_⟩
  rw [List.mem_map]
  exact ⟨p.j, by simp; omega, by rw [← h3]⟩

/-- all packs of short words: fewer than the limit -/
theorem packs_few (hs : Small g) {l : List Part} (hn : l.Nodup) (h8 : ∀ p ∈ l, p.i ≤ 8 ∧ p.j ≤ 8) : (l.map fun p => (waysU g x M p).length).sum ≤ maxPacks := by
  refine Nat.le_trans (sum_le l fun p hp => ways_len hs) ?_
  rw [sum_swap]
  refine Nat.le_trans (sum_le (h := fun _ => 825) g.rules fun r _ => ?_) ?_
  · rw [sum_filter (fun p : Part => decide (p.y = ⟨false, r.l⟩)) sqP l]
    exact sum_sqs hn h8 ⟨false, r.l⟩
  · rw [sum_const]
    have := hs.r8
    unfold maxPacks
    omega
end
end Go.Proofs.YtdbkbkopcnkgcaaGreat

open Go Go.RowKit
namespace Go.Proofs.YtdbkbkopcnkgcaaGreat

/-! ### what the forest of a short word is -/
section
variable {g : Gram} {x : List Int} {M M' : List (List Nat)}

theorem ways_small (hs : Small g) {p : Part} (h8 : p.i ≤ 8 ∧ p.j ≤ 8) : (waysU g x M p).length ≤ maxPacks := by
  have := packs_few (g := g) (x := x) (M := M) hs (l := [p]) (by simp) (fun q hq => by simp at hq; rw [hq]; exact h8)
  simpa using this

theorem ways_kids (hs : Small g) (hx : x.length ≤ 8) {p : Part} (hp : p ∈ partsF g x) : ∀ v ∈ waysU g x M p, ∀ k ∈ v.kids, k ∈ partsF g x := by
  obtain ⟨_, _, hi, hj⟩ := of_partsF hp
  by_cases ht : p.y.t = true
  · unfold waysU; rw [if_pos ht]; simp
  · have hu := rulesF_U (g := g) (x := x) (M := M) (p := p) (by simpa using ht) (m := 0) (by have := ways_small (x := x) (M := M) hs (p := p) (by omega); omega)
    have hk := rulesF_ok (M := M) hs.valid hi hj 0
    rw [hu] at hk
    intro v hv k hk2
    obtain ⟨h1, h2, h3⟩ := (hk v hv).ok k hk2
    exact mem_partsF ⟨h1, h2, h3⟩

theorem reach_small (hs : Small g) (hx : x.length ≤ 8) : ∃ s, reachF g x M 4000 (rootF g x) ⟨[], 0⟩ = some s ∧ RInv g x M (partsF g x) s ∧ (∀ p, p ∈ keysR s ↔ Reached g x M p) ∧ s.many ≤ maxPacks := by
  obtain ⟨s, h1, -⟩ := reach_root (M := M) hs.valid (x := x) (by omega)
  have hB : ∀ l : List Part, l.Nodup → (∀ p ∈ l, p ∈ partsF g x) → (l.map fun p => (waysU g x M p).length).sum ≤ maxPacks := fun l hn hl => packs_few hs hn fun p hp => by
    obtain ⟨_, _, h2, h3⟩ := of_partsF (hl p hp)
    omega
  obtain ⟨k1, k2, k3⟩ := reachF_U (Rch := Reached g x M) (fun p hp => ways_kids hs hx hp) (fun p hp v hv k hk => .kid hp hv hk) hB 4000 (rootF g x) ⟨[], 0⟩ s h1 (mem_partsF (root_ok hs.valid)) .root ⟨by simp [keysR], by simp [keysR], by simp, by simp [keysR]⟩
  refine ⟨s, h1, k1, fun p => ⟨fun hp => (k2.2 p hp (by simp [keysR])).1, fun hp => ?_⟩, by rw [k1.many]; exact hB _ k1.nodup k1.sub⟩
  induction hp with
  | root => exact k3
  | kid _ hv hk ih => exact (k2.2 _ ih (by simp [keysR])).2 _ hv _ hk

/-- the state of a forest that is made -/
structure MadeU (g : Gram) (x : List Int) (M : List (List Nat)) (s : RS) : Prop where
  keys : ∀ p, p ∈ keysR s ↔ Reached g x M p
  nodup : (keysR s).Nodup
  look : ∀ p, Reached g x M p → alook s.ways p = some (waysU g x M p)
  ok : ∀ p, Reached g x M p → p ∈ partsF g x

theorem made_small (hs : Small g) (hx : x.length ≤ 8) (h : (entry M g.start 0).testBit x.length = true) : ∃ s, MadeU g x M s ∧ madeF g x M = (forestF s (rootF g x), 0) := by
  obtain ⟨s, h1, h2, h3, h4⟩ := reach_small (M := M) hs hx
  refine ⟨s, ⟨h3, h2.nodup, fun p hp => ?_, fun p hp => h2.sub p ((h3 p).2 hp)⟩, ?_⟩
  · cases hl : alook s.ways p with
    | none => exact absurd ((h3 p).2 hp) (alook_none.1 hl)
    | some v => exact congrArg some (h2.val _ (alook_some hl))
  · unfold madeF
    rw [if_neg (by rw [h]; decide), h1]
    simp only
    rw [if_neg (by omega)]
theorem made_empty (h : (entry M g.start 0).testBit x.length = false) : madeF g x M = (⟨[], -1⟩, 0) := by
  unfold madeF
  rw [if_pos h]
theorem made_ok (hs : Small g) (hx : x.length ≤ 8) : (madeF g x M).2 = 0 := by
  cases h : (entry M g.start 0).testBit x.length
  · rw [made_empty h]
  · obtain ⟨s, _, h2⟩ := made_small hs hx h
    rw [h2]

theorem mem_keysF {s : RS} {p : Part} : p ∈ keysF s ↔ p ∈ keysR s := by unfold keysF keysR; exact List.mem_mergeSort

/-! #### fewer ends, fewer packs -/
def Fewer (M' M : List (List Nat)) : Prop := ∀ n i j, (entry M' n i).testBit j = true → (entry M n i).testBit j = true

theorem aft1_more (h : Fewer M' M) {y : Sym} {i j : Nat} (h1 : (aft1 x M' y i).testBit j = true) : (aft1 x M y i).testBit j = true := by
  obtain ⟨t, n⟩ := y
  cases t
  · rw [aft1_non] at h1 ⊢; exact h _ _ _ h1
  · rw [aft1_term] at h1 ⊢; exact h1
theorem seq_more (h : Fewer M' M) : ∀ (l : List Sym) (f' f : Nat), (∀ i, f'.testBit i = true → f.testBit i = true) → ∀ j, (seqEnds x M' l f').testBit j = true → (seqEnds x M l f).testBit j = true
  | [], f', f, hf, j, hj => hf j hj
  | y :: l, f', f, hf, j, hj => by
    refine seq_more h l (aftTo x M' y f' (x.length + 1)) (aftTo x M y f (x.length + 1)) (fun i hi => ?_) j hj
    obtain ⟨k, hk, h1, h2⟩ := (aftTo_bit ..).1 hi
    exact (aftTo_bit ..).2 ⟨k, hk, hf k h1, aft1_more h h2⟩

theorem flatMap_sub {α β : Type} {f' f : α → List β} : ∀ ps : List α, (∀ p ∈ ps, (f' p).Sublist (f p)) → (ps.flatMap f').Sublist (ps.flatMap f)
  | [], _ => by simp
  | p :: ps, h => by
    rw [List.flatMap_cons, List.flatMap_cons]
    exact (h p (List.mem_cons_self ..)).append (flatMap_sub ps fun q hq => h q (List.mem_cons_of_mem _ hq))

theorem splitU_more (h : Fewer M' M) {rule j : Nat} : ∀ (l : List Sym) (a : Nat) (kids : List Part), (splitU x M' rule j l a kids).Sublist (splitU x M rule j l a kids)
  | [], a, kids => by unfold splitU; exact List.Sublist.refl _
  | y :: l, a, kids => by
    unfold splitU
    refine flatMap_sub _ fun p _ => ?_
    by_cases hc : (aft1 x M' y a).testBit p = true ∧ (seqEnds x M' l (2 ^ p)).testBit j = true
    · rw [if_pos hc, if_pos ⟨aft1_more h hc.1, seq_more h l _ _ (fun _ hi => hi) j hc.2⟩]
      exact splitU_more h l p _
    · rw [if_neg hc]; exact List.nil_sublist _

theorem waysU_more (h : Fewer M' M) (p : Part) : (waysU g x M' p).Sublist (waysU g x M p) := by
  unfold waysU
  split
  · exact List.Sublist.refl _
  · refine flatMap_sub _ fun rn _ => ?_
    unfold ruleU
    by_cases hc : rn.1.l = p.y.n ∧ (seqEnds x M' rn.1.r (2 ^ p.i)).testBit p.j = true
    · rw [if_pos hc, if_pos ⟨hc.1, seq_more h _ _ _ (fun _ hi => hi) _ hc.2⟩]
      exact splitU_more h _ _ _
    · rw [if_neg hc]; exact List.nil_sublist _

theorem reached_more (h : Fewer M' M) {p : Part} (hp : Reached g x M' p) : Reached g x M p := by
  induction hp with
  | root => exact .root
  | kid _ hv hk ih => exact .kid ih ((waysU_more h _).subset hv) hk

/-- each node of the smaller forest is one of the greater, with no more packs -/
theorem forest_less (hs : Small g) (hx : x.length ≤ 8) (h : Fewer M' M) : ∀ n ∈ (madeF g x M').1.nodes, ∃ m ∈ (madeF g x M).1.nodes, m.y = n.y ∧ m.i = n.i ∧ m.j = n.j ∧ n.packs.length ≤ m.packs.length := by
  intro n hn
  cases h0 : (entry M' g.start 0).testBit x.length
  · rw [made_empty h0] at hn; cases hn
  · obtain ⟨s', h1, h2⟩ := made_small hs hx h0
    obtain ⟨s, k1, k2⟩ := made_small hs hx (h _ _ _ h0)
    rw [h2] at hn
    rw [k2]
    simp only [forestF, List.mem_map] at hn ⊢
    obtain ⟨p, hp, rfl⟩ := hn
    have hr := (h1.keys p).1 (mem_keysF.1 hp)
    have hr2 := reached_more h hr
    refine ⟨_, ⟨p, mem_keysF.2 ((k1.keys p).2 hr2), rfl⟩, rfl, rfl, rfl, ?_⟩
    simp only [nodeF, List.length_mergeSort, List.length_map, h1.look p hr, k1.look p hr2, Option.getD_some]
    exact (waysU_more h p).length_le
end
end Go.Proofs.YtdbkbkopcnkgcaaGreat

open Go Go.RowKit
namespace Go.Proofs.YtdbkbkopcnkgcaaGreat

/-! ### the ways of a part, told by what they are -/
section
variable {g : Gram} {x : List Int} {M : List (List Nat)}

/-- the kids follow each other and fill the part -/
def Fit (x : List Int) (M : List (List Nat)) : List Sym → Nat → Nat → List Part → Prop
  | [], a, j, ks => ks = [] ∧ a = j
  | y :: l, a, j, ks => ∃ p ks', ks = ⟨y, a, p⟩ :: ks' ∧ (aft1 x M y a).testBit p = true ∧ Fit x M l p j ks'

theorem pow_bit {a j : Nat} (h : (2 ^ a).testBit j = true) : a = j := by
  rw [Nat.testBit_two_pow] at h
  exact of_decide_eq_true h
theorem pow_self (a : Nat) : (2 ^ a).testBit a = true := by rw [Nat.testBit_two_pow]; simp

theorem seq_add : ∀ (l : List Sym) (f j : Nat), (seqEnds x M l f).testBit j = true ↔ ∃ i, f.testBit i = true ∧ (seqEnds x M l (2 ^ i)).testBit j = true
  | [], f, j => by
    refine ⟨fun h => ⟨j, h, pow_self j⟩, fun ⟨i, h1, h2⟩ => ?_⟩
    have e : i = j := pow_bit h2
    subst e
    exact h1
  | y :: l, f, j => by
    refine ⟨fun h => ?_, fun ⟨i, h1, h2⟩ => ?_⟩
    · obtain ⟨k, h1, h2⟩ := (seq_add l (aftTo x M y f (x.length + 1)) j).1 h
      obtain ⟨i, hi, h3, h4⟩ := (aftTo_bit ..).1 h1
      exact ⟨i, h3, (seq_add l (aftTo x M y (2 ^ i) (x.length + 1)) j).2 ⟨k, (aftTo_bit ..).2 ⟨i, hi, pow_self i, h4⟩, h2⟩⟩
    · obtain ⟨k, h3, h4⟩ := (seq_add l (aftTo x M y (2 ^ i) (x.length + 1)) j).1 h2
      obtain ⟨i', hi, h5, h6⟩ := (aftTo_bit ..).1 h3
      have e : i = i' := pow_bit h5
      subst e
      exact (seq_add l (aftTo x M y f (x.length + 1)) j).2 ⟨k, (aftTo_bit ..).2 ⟨i, hi, h1, h6⟩, h4⟩

theorem seq_cons {y : Sym} {l : List Sym} {a j : Nat} : (seqEnds x M (y :: l) (2 ^ a)).testBit j = true ↔ a ≤ x.length ∧ ∃ p, (aft1 x M y a).testBit p = true ∧ (seqEnds x M l (2 ^ p)).testBit j = true := by
  refine ⟨fun h => ?_, fun ⟨h1, p, h2, h3⟩ => ?_⟩
  · obtain ⟨k, h1, h2⟩ := (seq_add l (aftTo x M y (2 ^ a) (x.length + 1)) j).1 h
    obtain ⟨i, hi, h3, h4⟩ := (aftTo_bit ..).1 h1
    have e : a = i := pow_bit h3
    subst e
    exact ⟨by omega, k, h4, h2⟩
  · exact (seq_add l (aftTo x M y (2 ^ a) (x.length + 1)) j).2 ⟨p, (aftTo_bit ..).2 ⟨a, by omega, pow_self a, h2⟩, h3⟩

theorem fit_seq (hsh : Short x M) : ∀ {l : List Sym} {a j : Nat} {ks : List Part}, a ≤ x.length → Fit x M l a j ks → (seqEnds x M l (2 ^ a)).testBit j = true
  | [], a, j, ks, _, h => by rw [← h.2]; exact pow_self a
  | y :: l, a, j, ks, ha, h => by
    obtain ⟨p, ks', _, h1, h2⟩ := h
    exact seq_cons.2 ⟨ha, p, h1, fit_seq hsh (one_short hsh h1) h2⟩

theorem seq_fit : ∀ {l : List Sym} {a j : Nat}, (seqEnds x M l (2 ^ a)).testBit j = true → ∃ ks, Fit x M l a j ks
  | [], a, j, h => ⟨[], rfl, pow_bit h⟩
  | y :: l, a, j, h => by
    obtain ⟨_, p, h1, h2⟩ := seq_cons.1 h
    obtain ⟨ks, h3⟩ := seq_fit h2
    exact ⟨⟨y, a, p⟩ :: ks, p, ks, rfl, h1, h3⟩

theorem mem_splitU (hsh : Short x M) (hlow : MLow M) {rule j : Nat} : ∀ {l : List Sym} {a : Nat} {pre : List Part} {v : Way}, a ≤ x.length → (seqEnds x M l (2 ^ a)).testBit j = true → (v ∈ splitU x M rule j l a pre ↔ v.rule = rule ∧ ∃ ks, v.kids = pre ++ ks ∧ Fit x M l a j ks)
  | [], a, pre, v, _, hs => by
    unfold splitU
    rw [List.mem_singleton]
    have e : a = j := pow_bit hs
    refine ⟨fun h => by rw [h]; exact ⟨rfl, [], by simp, rfl, e⟩, fun ⟨h1, ks, h2, h3, _⟩ => ?_⟩
    rw [h3, List.append_nil] at h2
    obtain ⟨r, k⟩ := v
    simp only at h1 h2
    rw [h1, h2]
  | y :: l, a, pre, v, ha, hs => by
    unfold splitU
    rw [List.mem_flatMap]
    refine ⟨fun ⟨p, hp, hv⟩ => ?_, fun ⟨h1, ks, h2, p, ks', h3, h4, h5⟩ => ?_⟩
    · split at hv
      · rename_i hc
        obtain ⟨h1, ks, h2, h3⟩ := (mem_splitU hsh hlow (one_short hsh hc.1) hc.2).1 hv
        exact ⟨h1, ⟨y, a, p⟩ :: ks, by rw [h2]; simp, p, ks, rfl, hc.1, h3⟩
      · cases hv
    · have hpl := one_short hsh h4
      have hsq := fit_seq hsh hpl h5
      have h6 := aft1_low hlow h4
      have h7 := seq_low hlow l (2 ^ p) p j (fun k hk => by have := pow_bit hk; omega) hsq
      refine ⟨p, by rw [List.mem_range'_1]; omega, ?_⟩
      rw [if_pos ⟨h4, hsq⟩]
      exact (mem_splitU hsh hlow hpl hsq).2 ⟨h1, ks', by rw [h2, h3]; simp, h5⟩

theorem splitU_pre {rule j : Nat} : ∀ {l : List Sym} {a : Nat} {pre : List Part} {v : Way}, v ∈ splitU x M rule j l a pre → v.rule = rule ∧ ∃ ks, v.kids = pre ++ ks
  | [], a, pre, v, h => by
    unfold splitU at h
    rw [List.mem_singleton] at h
    rw [h]; exact ⟨rfl, [], by simp⟩
  | y :: l, a, pre, v, h => by
    unfold splitU at h
    rw [List.mem_flatMap] at h
    obtain ⟨p, _, h⟩ := h
    split at h
    · obtain ⟨h1, ks, h2⟩ := splitU_pre h
      exact ⟨h1, ⟨y, a, p⟩ :: ks, by rw [h2]; simp⟩
    · cases h

theorem flatMap_nodup {α β : Type} {f : α → List β} : ∀ ps : List α, ps.Nodup → (∀ p ∈ ps, (f p).Nodup) → (∀ p ∈ ps, ∀ q ∈ ps, ∀ v, v ∈ f p → v ∈ f q → p = q) → (ps.flatMap f).Nodup
  | [], _, _, _ => by simp
  | p :: ps, hn, h1, h2 => by
    obtain ⟨hp, hn⟩ := List.nodup_cons.1 hn
    rw [List.flatMap_cons, List.nodup_append]
    refine ⟨h1 p (List.mem_cons_self ..), flatMap_nodup ps hn (fun q hq => h1 q (List.mem_cons_of_mem _ hq)) (fun q hq r hr => h2 q (List.mem_cons_of_mem _ hq) r (List.mem_cons_of_mem _ hr)), fun v hv w hw e => ?_⟩
    subst e
    obtain ⟨q, hq, hvq⟩ := List.mem_flatMap.1 hw
    have := h2 p (List.mem_cons_self ..) q (List.mem_cons_of_mem _ hq) v hv hvq
    exact hp (this ▸ hq)

theorem splitU_nodup {rule j : Nat} : ∀ (l : List Sym) (a : Nat) (pre : List Part), (splitU x M rule j l a pre).Nodup
  | [], a, pre => by unfold splitU; simp
  | y :: l, a, pre => by
    unfold splitU
    refine flatMap_nodup _ List.nodup_range' (fun p _ => ?_) fun p _ q _ v hv hw => ?_
    · split
      · exact splitU_nodup l p _
      · simp
    · split at hv
      · split at hw
        · obtain ⟨_, ks, h1⟩ := splitU_pre hv
          obtain ⟨_, ks', h2⟩ := splitU_pre hw
          rw [h1, List.append_assoc, List.append_assoc, List.append_cancel_left_eq] at h2
          simp only [List.singleton_append, List.cons.injEq, Part.mk.injEq, true_and] at h2
          exact h2.1
        · cases hw
      · cases hv

theorem mem_waysU (hsh : Short x M) (hlow : MLow M) {p : Part} (hi : p.i ≤ x.length) {v : Way} : v ∈ waysU g x M p ↔ p.y.t = false ∧ ∃ r, g.rules[v.rule]? = some r ∧ r.l = p.y.n ∧ Fit x M r.r p.i p.j v.kids := by
  unfold waysU
  by_cases ht : p.y.t = true
  · rw [if_pos ht, ht]; simp
  · rw [if_neg ht, List.mem_flatMap]
    have ht : p.y.t = false := by simpa using ht
    refine ⟨fun ⟨rn, hrn, hv⟩ => ⟨ht, ?_⟩, fun ⟨_, r, hr, hl, hf⟩ => ?_⟩
    · unfold ruleU at hv
      split at hv
      · rename_i hc
        obtain ⟨h1, ks, h2, h3⟩ := (mem_splitU hsh hlow hi hc.2).1 hv
        have := List.mem_zipIdx_iff_getElem?.1 hrn
        exact ⟨rn.1, by rw [h1]; exact this, hc.1, by rw [h2]; exact h3⟩
      · cases hv
    · have hsq := fit_seq hsh hi hf
      refine ⟨(r, v.rule), List.mem_zipIdx_iff_getElem?.2 hr, ?_⟩
      unfold ruleU
      rw [if_pos ⟨hl, hsq⟩]
      exact (mem_splitU hsh hlow hi hsq).2 ⟨rfl, v.kids, by simp, hf⟩

theorem ruleU_rule {p : Part} {rn : Rule × Nat} {v : Way} (h : v ∈ ruleU x M p rn) : v.rule = rn.2 := by
  unfold ruleU at h
  split at h
  · exact (splitU_pre h).1
  · cases h

theorem waysU_nodup {p : Part} : (waysU g x M p).Nodup := by
  unfold waysU
  split
  · simp
  · refine flatMap_nodup _ ?_ (fun rn _ => ?_) fun rn h1 rn' h2 v hv hw => ?_
    · rw [List.nodup_iff_pairwise_ne] 
      have h := List.pairwise_map.1 (show (g.rules.zipIdx.map Prod.snd).Pairwise (· ≠ ·) by rw [List.zipIdx_map_snd]; exact List.nodup_range')
      exact h.imp fun h e => h (by rw [e])
    · unfold ruleU
      split
      · exact splitU_nodup _ _ _
      · simp
    · have e1 := ruleU_rule hv
      have e2 := ruleU_rule hw
      have k1 := List.mem_zipIdx_iff_getElem?.1 h1
      have k2 := List.mem_zipIdx_iff_getElem?.1 h2
      rw [← e1, e2] at k1
      rw [k1] at k2
      injection k2 with k2
      exact Prod.ext k2 (e1.symm.trans e2)
end
end Go.Proofs.YtdbkbkopcnkgcaaGreat

open Go Go.RowKit
namespace Go.Proofs.YtdbkbkopcnkgcaaGreat

/-! ### the shape of the forest of a word -/
section
variable {g : Gram} {x : List Int} {M : List (List Nat)}

theorem idxF_get {ks : List Part} {p : Part} (hp : p ∈ ks) : ∃ n : Nat, ks[n]? = some p ∧ idxF ks p = (n : Int) := by
  unfold idxF
  have hk : p ∈ (atF ks).map (·.1) := by rw [atF_keys]; exact hp
  cases h : alook (atF ks) p with
  | none => exact absurd hk (alook_none.1 h)
  | some v =>
    have h2 := alook_some h
    unfold atF at h2
    rw [List.mem_map] at h2
    obtain ⟨q, hq, he⟩ := h2
    have h3 := List.mem_zipIdx_iff_getElem?.1 hq
    have e1 : q.1 = p := congrArg Prod.fst he
    have e2 : (q.2 : Int) = v := congrArg Prod.snd he
    exact ⟨q.2, e1 ▸ h3, by rw [Option.getD_some, e2]⟩
theorem idxF_inj {ks : List Part} {p q : Part} (hp : p ∈ ks) (hq : q ∈ ks) (h : idxF ks p = idxF ks q) : p = q := by
  obtain ⟨n, h1, h2⟩ := idxF_get hp
  obtain ⟨m, h3, h4⟩ := idxF_get hq
  have e : n = m := by omega
  subst e
  rw [h1] at h3
  injection h3

theorem sortedF (s : RS) : (keysF s).Pairwise fun a b => ¬ cmpPart b a < 0 := by
  unfold keysF
  have := List.pairwise_mergeSort (le := partLe) (fun a b c h1 h2 => by
    simp only [partLe, Bool.not_eq_true', decide_eq_false_iff_not, cmpPart_lt] at *; omega) (fun a b => by
    simp only [partLe, Bool.or_eq_true, Bool.not_eq_true', decide_eq_false_iff_not, cmpPart_lt]; omega) (s.ways.map (·.1))
  exact this.imp fun {a b} h => by simpa [partLe] using h
theorem cmpPart_tot {a b : Part} (h1 : ¬ cmpPart a b < 0) (h2 : ¬ cmpPart b a < 0) : a = b := by
  rw [cmpPart_lt] at h1 h2
  obtain ⟨⟨at_, an⟩, ai, aj⟩ := a
  obtain ⟨⟨bt, bn⟩, bi, bj⟩ := b
  simp only [Part.mk.injEq, Sym.mk.injEq]
  unfold tk at h1 h2
  cases at_ <;> cases bt <;> simp at h1 h2 ⊢ <;> omega

theorem packs_sorted (l : List PackD) : (l.mergeSort packLe).Pairwise fun a b => ¬ cmpPack b a < 0 := by
  have := List.pairwise_mergeSort (le := packLe) (fun a b c h1 h2 => by
    simp only [packLe, Bool.not_eq_true', decide_eq_false_iff_not] at *
    exact cmpPack_ntrans h2 h1) (fun a b => by
    simp only [packLe, Bool.or_eq_true, Bool.not_eq_true', decide_eq_false_iff_not]
    by_cases h : cmpPack b a < 0
    · right; intro h2; exact cmpPack_irrefl _ (cmpPack_trans h h2)
    · left; exact h) l
  exact this.imp fun {a b} h => by simpa [packLe] using h

/-- a sorted row without doubles is strictly sorted -/
theorem strict_of {α : Type} {c : α → α → Int} {l : List α} (ht : ∀ a b, ¬ c a b < 0 → ¬ c b a < 0 → a = b) (hs : l.Pairwise fun a b => ¬ c b a < 0) (hn : l.Nodup) {i : Nat} (h : i + 1 < l.length) : c l[i] l[i + 1] < 0 := by
  have h1 := List.pairwise_iff_getElem.1 hs i (i + 1) (by omega) h (by omega)
  have h2 := List.pairwise_iff_getElem.1 hn i (i + 1) (by omega) h (by omega)
  by_cases h3 : c l[i] l[i + 1] < 0
  · exact h3
  · exact absurd (ht _ _ h3 h1) h2

/-- what a part of a forest is: its symbol derives it -/
theorem reached_fit (hsh : Short x M) (hlow : MLow M) (hroot : (entry M g.start 0).testBit x.length = true) {p : Part} (hp : Reached g x M p) : (aft1 x M p.y p.i).testBit p.j = true ∧ p.i ≤ x.length := by
  have key : ∀ {l : List Sym} {a j : Nat} {ks : List Part}, a ≤ x.length → Fit x M l a j ks → ∀ k ∈ ks, (aft1 x M k.y k.i).testBit k.j = true ∧ k.i ≤ x.length := by
    intro l
    induction l with
    | nil => intro a j ks _ h k hk; rw [h.1] at hk; cases hk
    | cons y l ih =>
      intro a j ks ha h k hk
      obtain ⟨q, ks', rfl, h1, h2⟩ := h
      rcases List.mem_cons.1 hk with rfl | hk
      · exact ⟨h1, ha⟩
      · exact ih (one_short hsh h1) h2 k hk
  induction hp with
  | root => exact ⟨by unfold rootF; rw [aft1_non]; exact hroot, Nat.zero_le _⟩
  | kid _ hv hk ih =>
    obtain ⟨_, r, _, _, hf⟩ := (mem_waysU hsh hlow ih.2).1 hv
    exact key ih.2 hf _ hk

theorem ways_some (hsh : Short x M) (hlow : MLow M) (hs : Sound g x M) (hc : Closed g x M) {p : Part} (hy : 0 ≤ p.y.n) (ht : p.y.t = false) (hi : p.i ≤ x.length) (h : (aft1 x M p.y p.i).testBit p.j = true) : waysU g x M p ≠ [] := by
  obtain ⟨⟨t, n⟩, i, j⟩ := p
  simp only at hy ht hi h
  subst ht
  rw [aft1_non] at h
  have hd := hs n i j hy h
  generalize hl : [(⟨false, n⟩ : Sym)] = l at hd
  cases hd with
  | nil => cases hl
  | term => cases hl
  | @non n' l' r _ k _ hr hn h1 h2 =>
    injection hl with e1 e2
    injection e1 with _ e1
    subst e2
    cases h2
    have hsq := drv_seq hc h1 (2 ^ i) (pow_self i)
    obtain ⟨ks, hf⟩ := seq_fit hsq
    obtain ⟨m, hm, he⟩ := List.getElem_of_mem hr
    have hmem := (mem_waysU (g := g) hsh hlow (p := ⟨⟨false, n⟩, i, j⟩) hi (v := ⟨m, ks⟩)).2 ⟨rfl, r, by rw [List.getElem?_eq_getElem hm, he], hn.trans e1.symm, hf⟩
    intro e
    rw [e] at hmem
    cases hmem

/-- the kids of a pack follow each other -/
def ChainN (ns : List NodeD) : List Sym → Nat → Nat → List Int → Prop
  | [], a, j, cs => cs = [] ∧ a = j
  | y :: l, a, j, cs => ∃ (n : Nat) (m : NodeD) (cs' : List Int), cs = (n : Int) :: cs' ∧ ns[n]? = some m ∧ m.y = y ∧ m.i = a ∧ ChainN ns l m.j j cs'

theorem chain_of {s : RS} : ∀ {l : List Sym} {a j : Nat} {ks : List Part}, Fit x M l a j ks → (∀ k ∈ ks, k ∈ keysF s) → ChainN ((keysF s).map (nodeF (keysF s) s)) l a j (ks.map (idxF (keysF s)))
  | [], a, j, ks, h, _ => by rw [h.1]; exact ⟨rfl, h.2⟩
  | y :: l, a, j, ks, h, hk => by
    obtain ⟨p, ks', rfl, _, h2⟩ := h
    obtain ⟨n, h3, h4⟩ := idxF_get (hk _ (List.mem_cons_self ..))
    exact ⟨n, nodeF (keysF s) s ⟨y, a, p⟩, ks'.map (idxF (keysF s)), by rw [List.map_cons, h4], by rw [List.getElem?_map, h3]; rfl, rfl, rfl, chain_of h2 fun k hk2 => hk k (List.mem_cons_of_mem _ hk2)⟩

structure NodeOk (g : Gram) (x : List Int) (ns : List NodeD) (m : NodeD) : Prop where
  term : m.y.t = true → x[m.i]? = some m.y.n ∧ m.j = m.i + 1 ∧ m.packs = []
  non : m.y.t = false → m.packs ≠ []
  sorted : ∀ k (h : k + 1 < m.packs.length), cmpPack m.packs[k] m.packs[k + 1] < 0
  pack : ∀ q ∈ m.packs, ∃ r, g.rules[q.rule]? = some r ∧ r.l = m.y.n ∧ ChainN ns r.r m.i m.j q.kids

structure ShapeOk (g : Gram) (x : List Int) (f : ForD) : Prop where
  sorted : ∀ k (h : k + 1 < f.nodes.length), cmpPart ⟨f.nodes[k].y, f.nodes[k].i, f.nodes[k].j⟩ ⟨f.nodes[k + 1].y, f.nodes[k + 1].i, f.nodes[k + 1].j⟩ < 0
  node : ∀ m ∈ f.nodes, NodeOk g x f.nodes m
  root : ∃ (n : Nat) (m : NodeD), f.root = (n : Int) ∧ f.nodes[n]? = some m ∧ m.y = ⟨false, g.start⟩ ∧ m.i = 0 ∧ m.j = x.length
  kids : ∀ n, n < f.nodes.length → f.root = (n : Int) ∨ ∃ m ∈ f.nodes, ∃ q ∈ m.packs, (n : Int) ∈ q.kids

theorem shape_ok (hs : Small g) (hx : x.length ≤ 8) (hM : IsM g x M) (hroot : (entry M g.start 0).testBit x.length = true) : (madeF g x M).2 = 0 ∧ ShapeOk g x (madeF g x M).1 := by
  obtain ⟨hshape, hso, hcl⟩ := hM
  have hlow := sound_low hso
  have hsh : Short x M := sound_short hso fun n i h => entry_neg M n i h
  obtain ⟨s, hu, he⟩ := made_small hs hx hroot
  rw [he]
  refine ⟨rfl, ?_⟩
  have hnd : (keysF s).Nodup := by unfold keysF; exact (List.mergeSort_perm _ _).nodup_iff.2 hu.nodup
  have hk : ∀ p, p ∈ keysF s ↔ Reached g x M p := fun p => mem_keysF.trans (hu.keys p)
  have hget : ∀ (n : Nat) (h : n < (keysF s).length), ((keysF s).map (nodeF (keysF s) s))[n]? = some (nodeF (keysF s) s (keysF s)[n]) := fun n h => by rw [List.getElem?_map, List.getElem?_eq_getElem h]; rfl
  have hpk : ∀ p, Reached g x M p → (nodeF (keysF s) s p).packs = ((waysU g x M p).map (packF (keysF s))).mergeSort packLe := fun p hp => by unfold nodeF; rw [hu.look p hp]; rfl
  refine ⟨fun k h => ?_, fun m hm => ?_, ?_, fun n hn => ?_⟩
  · simp only [forestF, List.length_map, List.getElem_map, nodeF] at h ⊢
    exact strict_of (c := cmpPart) (fun a b => cmpPart_tot) (sortedF s) hnd h
  · simp only [forestF, List.mem_map] at hm
    obtain ⟨p, hp, rfl⟩ := hm
    have hr := (hk p).1 hp
    obtain ⟨hf, hi⟩ := reached_fit hsh hlow hroot hr
    have hpU := of_partsF (hu.ok p hr)
    refine ⟨fun ht => ?_, fun ht => ?_, fun k h => ?_, fun q hq => ?_⟩
    · have ht : p.y.t = true := ht
      have e : (⟨true, p.y.n⟩ : Sym) = p.y := by rw [show p.y = ⟨p.y.t, p.y.n⟩ from rfl, ht]
      have h2 : (aft1 x M ⟨true, p.y.n⟩ p.i).testBit p.j = true := by rw [e]; exact hf
      obtain ⟨h3, h4⟩ := (aft1_term ..).1 h2
      refine ⟨h3, h4, ?_⟩
      rw [hpk p hr]
      unfold waysU
      rw [if_pos ht]
      simp
    · have ht : p.y.t = false := ht
      have h2 := ways_some hsh hlow hso hcl hpU.1 ht hi hf
      rw [hpk p hr]
      intro e
      have h3 : ((waysU g x M p).map (packF (keysF s))).length = 0 := by rw [← List.length_mergeSort (le := packLe), e]; rfl
      rw [List.length_map] at h3
      exact h2 (List.eq_nil_of_length_eq_zero h3)
    · have hn : (nodeF (keysF s) s p).packs.Nodup := by
        rw [hpk p hr, (List.mergeSort_perm _ _).nodup_iff]
        refine List.pairwise_map.2 ?_
        refine (List.pairwise_iff_getElem.2 fun a b ha hb hab e => ?_)
        have hne := List.pairwise_iff_getElem.1 (waysU_nodup (g := g) (x := x) (M := M) (p := p)) a b ha hb hab
        apply hne
        have k1 : (waysU g x M p)[a] ∈ waysU g x M p := List.getElem_mem ha
        have k2 : (waysU g x M p)[b] ∈ waysU g x M p := List.getElem_mem hb
        generalize (waysU g x M p)[a] = v at e k1
        generalize (waysU g x M p)[b] = v' at e k2
        have r1 : ∀ k ∈ v.kids, k ∈ keysF s := fun k hk2 => (hk k).2 (.kid hr k1 hk2)
        have r2 : ∀ k ∈ v'.kids, k ∈ keysF s := fun k hk2 => (hk k).2 (.kid hr k2 hk2)
        obtain ⟨vr, vk⟩ := v
        obtain ⟨wr, wk⟩ := v'
        unfold packF at e
        injection e with e1 e2
        simp only at r1 r2 e1 e2
        have inj : ∀ (a b : List Part), (∀ k ∈ a, k ∈ keysF s) → (∀ k ∈ b, k ∈ keysF s) → a.map (idxF (keysF s)) = b.map (idxF (keysF s)) → a = b := by
          intro a
          induction a with
          | nil => intro b _ _ h; cases b with
            | nil => rfl
            | cons c b => cases h
          | cons c a ih =>
            intro b ha hb h
            cases b with
            | nil => cases h
            | cons d b =>
              simp only [List.map_cons, List.cons.injEq] at h
              rw [idxF_inj (ha _ (List.mem_cons_self ..)) (hb _ (List.mem_cons_self ..)) h.1, ih b (fun k hk => ha k (List.mem_cons_of_mem _ hk)) (fun k hk => hb k (List.mem_cons_of_mem _ hk)) h.2]
        rw [e1, inj _ _ r1 r2 e2]
      have hso2 : (nodeF (keysF s) s p).packs.Pairwise fun a b => ¬ cmpPack b a < 0 := packs_sorted _
      exact strict_of (c := cmpPack) (fun a b => cmpPack_tot) hso2 hn h
    · rw [hpk p hr, List.mem_mergeSort, List.mem_map] at hq
      obtain ⟨v, hv, rfl⟩ := hq
      obtain ⟨_, r, h1, h2, h3⟩ := (mem_waysU hsh hlow hi).1 hv
      exact ⟨r, h1, h2, chain_of h3 fun k hk2 => (hk k).2 (.kid hr hv hk2)⟩
  · obtain ⟨n, h1, h2⟩ := idxF_get ((hk _).2 (.root (g := g) (x := x) (M := M)))
    refine ⟨n, nodeF (keysF s) s (rootF g x), h2, ?_, rfl, rfl, rfl⟩
    show ((keysF s).map (nodeF (keysF s) s))[n]? = _
    rw [List.getElem?_map, h1]
    rfl
  · simp only [forestF, List.length_map] at hn
    have hp : (keysF s)[n] ∈ keysF s := List.getElem_mem hn
    have hr := (hk _).1 hp
    have hidx : ∀ q, q = (keysF s)[n] → idxF (keysF s) q = (n : Int) := fun q hq => by
      obtain ⟨m, h1, h2⟩ := idxF_get (hq ▸ hp)
      have hm : m < (keysF s).length := (List.getElem?_eq_some_iff.1 h1).1
      have e : (keysF s)[m] = (keysF s)[n] := by rw [← hq]; exact (List.getElem?_eq_some_iff.1 h1).2
      rw [h2]
      rcases Nat.lt_trichotomy m n with h | h | h
      · exact absurd e (List.pairwise_iff_getElem.1 hnd m n hm hn h)
      · rw [h]
      · exact absurd e.symm (List.pairwise_iff_getElem.1 hnd n m hn hm h)
    generalize hq : (keysF s)[n] = q at hr hidx
    have hidx := hidx q rfl
    cases hr with
    | root => exact .inl hidx
    | @kid p _ v h1 h2 h3 =>
      refine .inr ⟨nodeF (keysF s) s p, List.mem_map_of_mem ((hk p).2 h1), packF (keysF s) v, ?_, ?_⟩
      · rw [hpk p h1, List.mem_mergeSort]
        exact List.mem_map_of_mem h2
      · show (n : Int) ∈ v.kids.map (idxF (keysF s))
        rw [← hidx]
        exact List.mem_map_of_mem h3
end
end Go.Proofs.YtdbkbkopcnkgcaaGreat

open Go Go.RowKit
namespace Go.Proofs.YtdbkbkopcnkgcaaGreat

/-! ### the mirrored grammar: the plain law of ForestMirrored -/
def mirR (r : Rule) : Rule := ⟨r.l, r.r.reverse⟩
def mirG (g : Gram) : Gram := ⟨g.terms, g.nons, g.start, g.rules.map mirR⟩
theorem mirR_mirR (r : Rule) : mirR (mirR r) = r := by unfold mirR; simp
theorem mirG_mirG (g : Gram) : mirG (mirG g) = g := by
  unfold mirG
  simp only [List.map_map]
  have : (mirR ∘ mirR) = id := funext mirR_mirR
  rw [this, List.map_id]

theorem mir_valid {g : Gram} (h : Valid g) : Valid (mirG g) := by
  refine ⟨h.t1, h.t8, h.n1, h.n10, h.s0, h.s1, by unfold mirG; simpa using h.len, fun r hr => ?_, ?_⟩
  · unfold mirG at hr
    simp only [List.mem_map] at hr
    obtain ⟨r, hr, rfl⟩ := hr
    have ho := h.ok r hr
    exact ⟨ho.l0, ho.l1, by unfold mirR; simpa using ho.len, fun s hs => by
      unfold mirR at hs
      have h2 := ho.syms s (by simpa using hs)
      exact ⟨h2.n0, h2.nt, h2.nn⟩⟩
  · unfold mirG
    refine List.pairwise_map.2 (h.nodup.imp fun {a b} hne e => hne ?_)
    rw [← mirR_mirR a, e, mirR_mirR]
theorem mir_small {g : Gram} (h : Small g) : Small (mirG g) := by
  refine ⟨mir_valid h.valid, h.t3, h.n4, by unfold mirG; simpa using h.r1, by unfold mirG; simpa using h.r8, fun r hr => ?_⟩
  unfold mirG at hr
  simp only [List.mem_map] at hr
  obtain ⟨r, hr, rfl⟩ := hr
  unfold mirR
  simpa using h.l3 r hr

theorem mir_drv {g : Gram} {x : List Int} {l : List Sym} {i j : Nat} (h : Drv g x l i j) : Drv (mirG g) x.reverse l.reverse (x.length - j) (x.length - i) := by
  induction h with
  | nil i h => exact .nil _ (by rw [List.length_reverse]; omega)
  | @term t l i j h r ih =>
    have hi := (List.getElem?_eq_some_iff.1 h).1
    rw [List.reverse_cons]
    refine drv_app ih ?_
    have hr : x.reverse[x.length - (i + 1)]? = some t := by
      rw [List.getElem?_reverse (by omega), ← h]
      congr 1
      omega
    refine .term hr ?_
    rw [show x.length - (i + 1) + 1 = x.length - i by omega]
    exact .nil _ (by rw [List.length_reverse]; omega)
  | @non n l r i k j hr hn h s ih1 ih2 =>
    have hk := drv_le h
    rw [List.reverse_cons]
    refine drv_app ih2 (.non (r := mirR r) (by unfold mirG; exact List.mem_map_of_mem hr) (by unfold mirR; exact hn) ?_ (.nil _ (by rw [List.length_reverse]; omega)))
    exact ih1

/-- a grammar, a word and their ends, with the mirrored ones -/
structure Mir (g : Gram) (x : List Int) (M : List (List Nat)) (g' : Gram) (x' : List Int) (M' : List (List Nat)) : Prop where
  gr : g' = mirG g
  wd : x' = x.reverse
  ends : IsM g x M
  ends' : IsM g' x' M'
theorem Mir.symm {g g' : Gram} {x x' : List Int} {M M' : List (List Nat)} (h : Mir g x M g' x' M') : Mir g' x' M' g x M :=
  ⟨by rw [h.gr, mirG_mirG], by rw [h.wd, List.reverse_reverse], h.ends', h.ends⟩
theorem Mir.len {g g' : Gram} {x x' : List Int} {M M' : List (List Nat)} (h : Mir g x M g' x' M') : x'.length = x.length := by rw [h.wd, List.length_reverse]

def mirP (L : Nat) (p : Part) : Part := ⟨p.y, L - p.j, L - p.i⟩
theorem mirP_mirP {L : Nat} {p : Part} (h : p.i ≤ L ∧ p.j ≤ L) : mirP L (mirP L p) = p := by
  obtain ⟨y, i, j⟩ := p
  unfold mirP
  simp only at h ⊢
  rw [show L - (L - i) = i by omega, show L - (L - j) = j by omega]

section
variable {g g' : Gram} {x x' : List Int} {M M' : List (List Nat)}

theorem Mir.short (h : Mir g x M g' x' M') : Short x M := sound_short h.ends.2.1 fun n i h => entry_neg M n i h
theorem Mir.low (h : Mir g x M g' x' M') : MLow M := sound_low h.ends.2.1
theorem Mir.aft (h : Mir g x M g' x' M') {y : Sym} (hy : 0 ≤ y.n) {i j : Nat} (h1 : (aft1 x M y i).testBit j = true) : (aft1 x' M' y (x.length - j)).testBit (x.length - i) = true := by
  obtain ⟨t, n⟩ := y
  cases t
  · rw [aft1_non] at h1 ⊢
    have hd := mir_drv (h.ends.2.1 n i j hy h1)
    rw [← h.gr, ← h.wd] at hd
    exact (ends_iff h.ends'.2.1 h.ends'.2.2 n hy _ _).2 hd
  · obtain ⟨h2, h3⟩ := (aft1_term ..).1 h1
    have hi := (List.getElem?_eq_some_iff.1 h2).1
    subst h3
    refine (aft1_term ..).2 ⟨?_, by omega⟩
    rw [h.wd, List.getElem?_reverse (by omega), ← h2]
    congr 1
    omega

theorem fit_app {l m : List Sym} : ∀ {a k j : Nat} {ks ms : List Part}, Fit x M l a k ks → Fit x M m k j ms → Fit x M (l ++ m) a j (ks ++ ms) := by
  induction l with
  | nil => intro a k j ks ms h h2; rw [h.1, h.2]; exact h2
  | cons y l ih =>
    intro a k j ks ms h h2
    obtain ⟨p, ks', rfl, h3, h4⟩ := h
    exact ⟨p, ks' ++ ms, rfl, h3, ih h4 h2⟩

theorem Mir.fit (h : Mir g x M g' x' M') : ∀ {l : List Sym} {a j : Nat} {ks : List Part}, (∀ y ∈ l, 0 ≤ y.n) → Fit x M l a j ks → Fit x' M' l.reverse (x.length - j) (x.length - a) (ks.map (mirP x.length)).reverse
  | [], a, j, ks, _, hf => by rw [hf.1, hf.2]; exact ⟨rfl, rfl⟩
  | y :: l, a, j, ks, hy, hf => by
    obtain ⟨p, ks', rfl, h1, h2⟩ := hf
    rw [List.reverse_cons, List.map_cons, List.reverse_cons]
    refine fit_app (h.fit (fun z hz => hy z (List.mem_cons_of_mem _ hz)) h2) ?_
    exact ⟨x.length - a, [], rfl, h.aft (hy y (List.mem_cons_self ..)) h1, rfl, rfl⟩

def mirW (L : Nat) (v : Way) : Way := ⟨v.rule, (v.kids.map (mirP L)).reverse⟩

theorem Mir.way (h : Mir g x M g' x' M') (hv : Valid g) {p : Part} (hi : p.i ≤ x.length) (hj : p.j ≤ x.length) {v : Way} (hw : v ∈ waysU g x M p) : mirW x.length v ∈ waysU g' x' M' (mirP x.length p) := by
  obtain ⟨h1, r, h2, h3, h4⟩ := (mem_waysU h.short h.low hi).1 hw
  refine (mem_waysU h.symm.short h.symm.low (by show x.length - p.j ≤ _; rw [h.len]; omega)).2 ⟨h1, mirR r, ?_, h3, ?_⟩
  · rw [h.gr]
    unfold mirG mirW
    simp only [List.getElem?_map, h2]
    rfl
  · exact h.fit (fun y hy => ((hv.ok r (List.mem_of_getElem? h2)).syms y hy).n0) h4

/-- the kids of a way lie inside the word -/
theorem Mir.kid (h : Mir g x M g' x' M') {p : Part} (hi : p.i ≤ x.length) {v : Way} (hw : v ∈ waysU g x M p) : ∀ k ∈ v.kids, k.i ≤ x.length ∧ k.j ≤ x.length := by
  obtain ⟨_, r, _, _, h4⟩ := (mem_waysU h.short h.low hi).1 hw
  have key : ∀ {l : List Sym} {a j : Nat} {ks : List Part}, a ≤ x.length → Fit x M l a j ks → ∀ k ∈ ks, k.i ≤ x.length ∧ k.j ≤ x.length := by
    intro l
    induction l with
    | nil => intro a j ks _ h k hk; rw [h.1] at hk; cases hk
    | cons y l ih =>
      intro a j ks ha hf k hk
      obtain ⟨q, ks', rfl, h1, h2⟩ := hf
      have hq := one_short h.short h1
      rcases List.mem_cons.1 hk with rfl | hk
      · exact ⟨ha, hq⟩
      · exact ih hq h2 k hk
  exact key hi h4

theorem Mir.ways_le (h : Mir g x M g' x' M') (hv : Valid g) {p : Part} (hi : p.i ≤ x.length) (hj : p.j ≤ x.length) : (waysU g x M p).length ≤ (waysU g' x' M' (mirP x.length p)).length := by
  have hn : ((waysU g x M p).map (mirW x.length)).Nodup := by
    refine List.pairwise_map.2 (List.pairwise_iff_getElem.2 fun a b ha hb hab e => ?_)
    have hne := List.pairwise_iff_getElem.1 (waysU_nodup (g := g) (x := x) (M := M) (p := p)) a b ha hb hab
    apply hne
    have k1 := h.kid hi (List.getElem_mem ha)
    have k2 := h.kid hi (List.getElem_mem hb)
    generalize (waysU g x M p)[a] = v at e k1
    generalize (waysU g x M p)[b] = w at e k2
    obtain ⟨vr, vk⟩ := v
    obtain ⟨wr, wk⟩ := w
    unfold mirW at e
    injection e with e1 e2
    simp only at e1 e2 k1 k2
    have e3 := List.reverse_inj.1 e2
    have back : ∀ ks : List Part, (∀ k ∈ ks, k.i ≤ x.length ∧ k.j ≤ x.length) → (ks.map (mirP x.length)).map (mirP x.length) = ks := fun ks hk => by
      rw [List.map_map]
      have : ks.map (mirP x.length ∘ mirP x.length) = ks.map id := List.map_congr_left fun k hk2 => mirP_mirP (hk k hk2)
      rw [this, List.map_id]
    rw [e1, ← back vk k1, e3, back wk k2]
  have := nodup_sub_len _ (waysU g' x' M' (mirP x.length p)) hn fun v hv2 => by
    obtain ⟨w, hw, rfl⟩ := List.mem_map.1 hv2
    exact h.way hv hi hj hw
  simpa using this

theorem Mir.ways_len (h : Mir g x M g' x' M') (hv : Valid g) {p : Part} (hi : p.i ≤ x.length) (hj : p.j ≤ x.length) : (waysU g' x' M' (mirP x.length p)).length = (waysU g x M p).length := by
  have h1 := h.ways_le hv hi hj
  have hv' : Valid g' := by rw [h.gr]; exact mir_valid hv
  have h2 := h.symm.ways_le hv' (p := mirP x.length p) (by show x.length - p.j ≤ _; rw [h.len]; omega) (by show x.length - p.i ≤ _; rw [h.len]; omega)
  rw [h.len, mirP_mirP ⟨hi, hj⟩] at h2
  omega

theorem Mir.reached (h : Mir g x M g' x' M') (hv : Valid g) {p : Part} (hp : Reached g x M p) : Reached g' x' M' (mirP x.length p) ∧ p.i ≤ x.length ∧ p.j ≤ x.length := by
  induction hp with
  | root =>
    refine ⟨?_, Nat.zero_le _, Nat.le_refl _⟩
    have e : mirP x.length (rootF g x) = rootF g' x' := by
      unfold mirP rootF
      simp only
      rw [h.len, h.gr]
      simp [mirG]
    rw [e]
    exact .root
  | @kid p k v _ hw hk ih =>
    obtain ⟨h1, h2, h3⟩ := ih
    have h4 := h.kid h2 hw k hk
    refine ⟨.kid h1 (h.way hv h2 h3 hw) ?_, h4⟩
    unfold mirW
    simp only [List.mem_reverse]
    exact List.mem_map_of_mem hk

theorem Mir.root (h : Mir g x M g' x' M') (hv : Valid g) : (entry M g.start 0).testBit x.length = true → (entry M' g'.start 0).testBit x'.length = true := fun h1 => by
  have h2 := h.aft (y := ⟨false, g.start⟩) hv.s0 (i := 0) (j := x.length) (by rw [aft1_non]; exact h1)
  rw [aft1_non] at h2
  rw [h.len, h.gr]
  simpa [mirG] using h2

/-- half of the law; the other half is the same of the mirrored data -/
theorem Mir.half (h : Mir g x M g' x' M') (hs : Small g) (hs' : Small g') (hx : x.length ≤ 8) :
    (∀ n ∈ (madeF g x M).1.nodes, ∃ m ∈ (madeF g' x' M').1.nodes, m.y = n.y ∧ m.i = x.length - n.j ∧ m.j = x.length - n.i ∧ m.packs.length = n.packs.length) ∧ (madeF g x M).1.nodes.length ≤ (madeF g' x' M').1.nodes.length ∧ ((madeF g x M).1.nodes.map fun n => n.packs.length).sum ≤ ((madeF g' x' M').1.nodes.map fun n => n.packs.length).sum := by
  have hv := hs.valid
  cases h0 : (entry M g.start 0).testBit x.length
  · rw [made_empty h0]
    exact ⟨fun n hn => absurd hn List.not_mem_nil, Nat.zero_le _, Nat.zero_le _⟩
  · obtain ⟨s, h1, h2⟩ := made_small hs hx h0
    obtain ⟨s', k1, k2⟩ := made_small hs' (by rw [h.len]; exact hx) (h.root hv h0)
    rw [h2, k2]
    have hin : ∀ p ∈ keysF s, Reached g x M p := fun p hp => (h1.keys p).1 (mem_keysF.1 hp)
    have hto : ∀ p ∈ keysF s, mirP x.length p ∈ keysF s' := fun p hp => mem_keysF.2 ((k1.keys _).2 (h.reached hv (hin p hp)).1)
    have hpk : ∀ p, Reached g x M p → (nodeF (keysF s) s p).packs.length = (waysU g x M p).length := fun p hp => by
      unfold nodeF; rw [h1.look p hp]; simp
    have hpk' : ∀ p, Reached g' x' M' p → (nodeF (keysF s') s' p).packs.length = (waysU g' x' M' p).length := fun p hp => by
      unfold nodeF; rw [k1.look p hp]; simp
    have hnd : ((keysF s).map (mirP x.length)).Nodup := by
      have hn : (keysF s).Nodup := by unfold keysF; exact (List.mergeSort_perm _ _).nodup_iff.2 h1.nodup
      refine List.pairwise_map.2 (List.pairwise_iff_getElem.2 fun a b ha hb hab e => ?_)
      have hne := List.pairwise_iff_getElem.1 hn a b ha hb hab
      apply hne
      have r1 := (h.reached hv (hin _ (List.getElem_mem ha))).2
      have r2 := (h.reached hv (hin _ (List.getElem_mem hb))).2
      rw [← mirP_mirP r1, e, mirP_mirP r2]
    refine ⟨fun n hn => ?_, ?_, ?_⟩
    · simp only [forestF, List.mem_map] at hn ⊢
      obtain ⟨p, hp, rfl⟩ := hn
      have hr := hin p hp
      obtain ⟨r1, r2, r3⟩ := h.reached hv hr
      refine ⟨_, ⟨mirP x.length p, hto p hp, rfl⟩, rfl, rfl, rfl, ?_⟩
      rw [hpk' _ r1, hpk p hr, h.ways_len hv r2 r3]
    · simp only [forestF, List.length_map]
      have := nodup_sub_len _ (keysF s') hnd fun q hq => by
        obtain ⟨p, hp, rfl⟩ := List.mem_map.1 hq
        exact hto p hp
      simpa using this
    · simp only [forestF, List.map_map]
      have e1 : (keysF s).map ((fun n : NodeD => n.packs.length) ∘ nodeF (keysF s) s) = ((keysF s).map (mirP x.length)).map fun q => (waysU g' x' M' q).length := by
        rw [List.map_map]
        refine List.map_congr_left fun p hp => ?_
        have hr := hin p hp
        obtain ⟨r1, r2, r3⟩ := h.reached hv hr
        show (nodeF (keysF s) s p).packs.length = (waysU g' x' M' (mirP x.length p)).length
        rw [hpk p hr, h.ways_len hv r2 r3]
      have e2 : (keysF s').map ((fun n : NodeD => n.packs.length) ∘ nodeF (keysF s') s') = (keysF s').map fun q => (waysU g' x' M' q).length :=
        List.map_congr_left fun p hp => hpk' p ((k1.keys p).1 (mem_keysF.1 hp))
      rw [e1, e2]
      exact sum_sub _ _ _ hnd fun q hq => by
        obtain ⟨p, hp, rfl⟩ := List.mem_map.1 hq
        exact hto p hp

/-- **the mirrored grammar's forest of the mirrored word** -/
theorem Mir.law (h : Mir g x M g' x' M') (hs : Small g) (hs' : Small g') (hx : x.length ≤ 8) :
    (∀ n ∈ (madeF g x M).1.nodes, ∃ m ∈ (madeF g' x' M').1.nodes, m.y = n.y ∧ m.i = x.length - n.j ∧ m.j = x.length - n.i ∧ m.packs.length = n.packs.length) ∧ (madeF g x M).1.nodes.length = (madeF g' x' M').1.nodes.length ∧ ((madeF g x M).1.nodes.map fun n => n.packs.length).sum = ((madeF g' x' M').1.nodes.map fun n => n.packs.length).sum := by
  obtain ⟨h1, h2, h3⟩ := h.half hs hs' hx
  obtain ⟨_, k2, k3⟩ := h.symm.half hs' hs (by rw [h.len]; exact hx)
  exact ⟨h1, by omega, by omega⟩
end
end Go.Proofs.YtdbkbkopcnkgcaaGreat
