import Derived.Test.YtdbkbkopcnkgcaaMeanD
import Derived.Test.YtdbkbkopcnkgcaaMap
open Go Go.RowKit
namespace Go.Proofs.Ytdbkbkopcnkgcaa

/-! ### forests: the plain side -/
structure Part where
  y : Sym
  i : Nat
  j : Nat
deriving DecidableEq, Repr, Inhabited
structure Way where
  rule : Nat
  kids : List Part
deriving DecidableEq, Repr, Inhabited

def maxPacks : Nat := 20000
/-- ends lie behind their beginnings -/
def MLow (M : List (List Nat)) : Prop := ∀ n i j, (entry M n i).testBit j = true → i ≤ j

/-- one position of split's loop -/
def splitAt (x : List Int) (M : List (List Nat)) (j a : Nat) (y : Sym) (l : List Sym) (f : Nat → List Way × Nat → List Way × Nat) (s : List Way × Nat) (p : Nat) : List Way × Nat :=
  if s.2 ≤ maxPacks ∧ (aft1 x M y a).testBit p = true ∧ (seqEnds x M l (2 ^ p)).testBit j = true then f p s else s
/-- all ways by which the symbols l derive the part from a on up to j -/
def splitF (x : List Int) (M : List (List Nat)) (rule j : Nat) : List Sym → Nat → List Part → List Way × Nat → List Way × Nat
  | [], _, kids, s => (s.1 ++ [⟨rule, kids⟩], s.2 + 1)
  | y :: l, a, kids, s => (List.range' a (j + 1 - a)).foldl (splitAt x M j a y l fun p s => splitF x M rule j l p (kids ++ [⟨y, a, p⟩]) s) s

/-- what one rule gives -/
def ruleF (x : List Int) (M : List (List Nat)) (p : Part) (s : List Way × Nat) (rn : Rule × Nat) : List Way × Nat :=
  if rn.1.l = p.y.n ∧ (seqEnds x M rn.1.r (2 ^ p.i)).testBit p.j = true then splitF x M rn.2 p.j rn.1.r p.i [] s else s
def rulesF (g : Gram) (x : List Int) (M : List (List Nat)) (p : Part) (m : Nat) : List Way × Nat := g.rules.zipIdx.foldl (ruleF x M p) ([], m)

structure RS where
  ways : List (Part × List Way)
  many : Nat

def reachF (g : Gram) (x : List Int) (M : List (List Nat)) : Nat → Part → RS → Option RS
  | 0, _, _ => none
  | f + 1, p, s =>
    if (alook s.ways p).isSome = true ∨ maxPacks < s.many then some s
    else if p.y.t = true then some ⟨aput s.ways p [], s.many⟩
    else
      let r := rulesF g x M p s.many
      r.1.foldlM (fun s v => v.kids.foldlM (fun s k => reachF g x M f k s) s) ⟨aput s.ways p r.1, r.2⟩

/-! #### the loops, step by step -/
theorem range'_snoc (a n : Nat) : List.range' a (n + 1) = List.range' a n ++ [a + n] := by
  rw [List.range'_concat]; simp
theorem splitAt_stop {x : List Int} {M : List (List Nat)} {j a : Nat} {y : Sym} {l : List Sym} {f : Nat → List Way × Nat → List Way × Nat} {s : List Way × Nat} (h : maxPacks < s.2) : ∀ ps : List Nat, ps.foldl (splitAt x M j a y l f) s = s
  | [] => rfl
  | p :: ps => by
    rw [List.foldl_cons]
    have : splitAt x M j a y l f s p = s := by unfold splitAt; rw [if_neg (by omega)]
    rw [this, splitAt_stop h ps]
theorem splitF_nil {x : List Int} {M : List (List Nat)} {rule j a : Nat} {kids : List Part} {s : List Way × Nat} : splitF x M rule j [] a kids s = (s.1 ++ [⟨rule, kids⟩], s.2 + 1) := by rw [splitF]
theorem splitF_cons {x : List Int} {M : List (List Nat)} {rule j a : Nat} {y : Sym} {l : List Sym} {kids : List Part} {s : List Way × Nat} :
    splitF x M rule j (y :: l) a kids s = (List.range' a (j + 1 - a)).foldl (splitAt x M j a y l fun p s => splitF x M rule j l p (kids ++ [⟨y, a, p⟩]) s) s := by rw [splitF]

/-- how the ways begin and grow -/
theorem splitF_many {x : List Int} {M : List (List Nat)} {rule j : Nat} : ∀ (l : List Sym) (a : Nat) (kids : List Part) (s : List Way × Nat), ∃ ws, splitF x M rule j l a kids s = (s.1 ++ ws, s.2 + ws.length)
  | [], a, kids, s => ⟨[⟨rule, kids⟩], by rw [splitF_nil]; rfl⟩
  | y :: l, a, kids, s => by
    rw [splitF_cons]
    have key : ∀ (ps : List Nat) (s : List Way × Nat), ∃ ws, ps.foldl (splitAt x M j a y l fun p s => splitF x M rule j l p (kids ++ [⟨y, a, p⟩]) s) s = (s.1 ++ ws, s.2 + ws.length) := by
      intro ps
      induction ps with
      | nil => intro s; exact ⟨[], by simp⟩
      | cons p ps ih =>
        intro s
        rw [List.foldl_cons]
        obtain ⟨w1, h1⟩ : ∃ ws, splitAt x M j a y l (fun p s => splitF x M rule j l p (kids ++ [⟨y, a, p⟩]) s) s p = (s.1 ++ ws, s.2 + ws.length) := by
          unfold splitAt
          split
          · exact splitF_many l p (kids ++ [⟨y, a, p⟩]) s
          · exact ⟨[], by simp⟩
        obtain ⟨w2, h2⟩ := ih (s.1 ++ w1, s.2 + w1.length)
        rw [h1, h2]
        exact ⟨w1 ++ w2, by simp [Nat.add_assoc]⟩
    exact key _ s

/-- no more than one too many -/
theorem splitF_le {x : List Int} {M : List (List Nat)} {rule j : Nat} : ∀ (l : List Sym) (a : Nat) (kids : List Part) (s : List Way × Nat), s.2 ≤ maxPacks → (splitF x M rule j l a kids s).2 ≤ maxPacks + 1
  | [], a, kids, s, h => by rw [splitF_nil]; simp only; omega
  | y :: l, a, kids, s, h => by
    rw [splitF_cons]
    have key : ∀ (ps : List Nat) (s : List Way × Nat), s.2 ≤ maxPacks + 1 → (ps.foldl (splitAt x M j a y l fun p s => splitF x M rule j l p (kids ++ [⟨y, a, p⟩]) s) s).2 ≤ maxPacks + 1 := by
      intro ps
      induction ps with
      | nil => intro s h; exact h
      | cons p ps ih =>
        intro s h
        rw [List.foldl_cons]
        apply ih
        unfold splitAt
        split
        · rename_i h2; exact splitF_le l p _ s h2.1
        · exact h
    exact key _ s (by omega)

/-- the kids of the ways that split adds -/
structure OkKids (g : Gram) (x : List Int) (v : Way) : Prop where
  ok : ∀ k ∈ v.kids, OkSym g k.y ∧ k.i ≤ x.length ∧ k.j ≤ x.length
  short : v.kids.length ≤ 4

theorem splitF_ok {g : Gram} {x : List Int} {M : List (List Nat)} {rule j : Nat} (hj : j ≤ x.length) : ∀ (l : List Sym) (a : Nat) (kids : List Part) (s : List Way × Nat), (∀ y ∈ l, OkSym g y) → a ≤ x.length → (∀ k ∈ kids, OkSym g k.y ∧ k.i ≤ x.length ∧ k.j ≤ x.length) → kids.length + l.length ≤ 4 → (∀ v ∈ s.1, OkKids g x v) →
    ∀ v ∈ (splitF x M rule j l a kids s).1, OkKids g x v
  | [], a, kids, s, _, _, hk, hl, hs => by
    rw [splitF_nil]
    intro v hv
    rcases List.mem_append.1 hv with hv | hv
    · exact hs v hv
    · simp only [List.mem_singleton] at hv
      rw [hv]
      exact ⟨hk, by simpa using hl⟩
  | y :: l, a, kids, s, hy, ha, hk, hl, hs => by
    rw [splitF_cons]
    have key : ∀ (ps : List Nat) (s : List Way × Nat), (∀ p ∈ ps, p ≤ j) → (∀ v ∈ s.1, OkKids g x v) → ∀ v ∈ (ps.foldl (splitAt x M j a y l fun p s => splitF x M rule j l p (kids ++ [⟨y, a, p⟩]) s) s).1, OkKids g x v := by
      intro ps
      induction ps with
      | nil => intro s _ h; exact h
      | cons p ps ih =>
        intro s hp h
        rw [List.foldl_cons]
        have hpj := hp p (List.mem_cons_self ..)
        apply ih _ (fun q hq => hp q (List.mem_cons_of_mem _ hq))
        unfold splitAt
        split
        · refine splitF_ok hj l p _ s (fun z hz => hy z (List.mem_cons_of_mem _ hz)) (by omega) ?_ (by simp at hl ⊢; omega) h
          intro k hk2
          rcases List.mem_append.1 hk2 with hk2 | hk2
          · exact hk k hk2
          · simp only [List.mem_singleton] at hk2
            rw [hk2]
            exact ⟨hy y (List.mem_cons_self ..), ha, by simp only; omega⟩
        · exact h
    exact key _ s (fun p hp => by rw [List.mem_range'_1] at hp; omega) hs

theorem rulesF_ok {g : Gram} {x : List Int} {M : List (List Nat)} (hv : Valid g) {p : Part} (hi : p.i ≤ x.length) (hj : p.j ≤ x.length) (m : Nat) : ∀ v ∈ (rulesF g x M p m).1, OkKids g x v := by
  unfold rulesF
  have key : ∀ (l : List (Rule × Nat)) (s : List Way × Nat), (∀ q ∈ l, OkRule g q.1) → (∀ v ∈ s.1, OkKids g x v) → ∀ v ∈ (l.foldl (ruleF x M p) s).1, OkKids g x v := by
    intro l
    induction l with
    | nil => intro s _ h; exact h
    | cons q l ih =>
      intro s hq h
      rw [List.foldl_cons]
      apply ih _ (fun q' h' => hq q' (List.mem_cons_of_mem _ h'))
      have hr := hq q (List.mem_cons_self ..)
      unfold ruleF
      split
      · exact splitF_ok hj _ _ _ s hr.syms hi (by simp) (by simpa using hr.len) h
      · exact h
  refine key _ _ (fun q hq => ?_) (by simp)
  exact hv.ok _ (List.fst_mem_of_mem_zipIdx hq)

/-! #### reach comes to an end -/
theorem foldlM_some {α σ : Type} {f : σ → α → Option σ} : ∀ (l : List α) (s : σ) (P : σ → Prop), P s → (∀ s a, P s → a ∈ l → ∃ s', f s a = some s' ∧ P s') → ∃ s', l.foldlM f s = some s' ∧ P s'
  | [], s, P, h, _ => ⟨s, rfl, h⟩
  | a :: l, s, P, h, hf => by
    obtain ⟨s1, h1, h2⟩ := hf s a h (List.mem_cons_self ..)
    obtain ⟨s2, h3, h4⟩ := foldlM_some l s1 P h2 (fun s b hs hb => hf s b hs (List.mem_cons_of_mem _ hb))
    exact ⟨s2, by rw [List.foldlM_cons, h1]; exact h3, h4⟩

theorem aput_len_new {κ ν : Type} [DecidableEq κ] {l : List (κ × ν)} {k : κ} {v : ν} (h : alook l k = none) : (aput l k v).length = l.length + 1 := by
  rw [aput_new (alook_none.1 h)]; simp

/-- the state of reach as it should be -/
structure RSOk (U : List Part) (s : RS) : Prop where
  nodup : (s.ways.map (·.1)).Nodup
  sub : ∀ p ∈ s.ways.map (·.1), p ∈ U

theorem nodup_sub_len {α : Type} [DecidableEq α] : ∀ (l m : List α), l.Nodup → (∀ a ∈ l, a ∈ m) → l.length ≤ m.length
  | [], _, _, _ => by simp
  | a :: l, m, h, hs => by
    have h1 := nodup_sub_len l (m.erase a) (List.nodup_cons.1 h).2 (fun b hb => by
      have hne : b ≠ a := fun e => (List.nodup_cons.1 h).1 (e ▸ hb)
      exact (List.mem_erase_of_ne hne).2 (hs b (List.mem_cons_of_mem _ hb)))
    have hm : a ∈ m := hs a (List.mem_cons_self ..)
    have := List.length_erase_of_mem hm
    have : 0 < m.length := List.length_pos_of_mem hm
    simp only [List.length_cons]; omega

theorem reachF_some {g : Gram} {x : List Int} {M : List (List Nat)} {U : List Part} (hU : ∀ p ∈ U, p.y.t = false → ∀ m, ∀ v ∈ (rulesF g x M p m).1, ∀ k ∈ v.kids, k ∈ U) :
    ∀ (f : Nat) (p : Part) (s : RS), p ∈ U → RSOk U s → U.length < f + s.ways.length → ∃ s', reachF g x M f p s = some s' ∧ RSOk U s' ∧ s.ways.length ≤ s'.ways.length
  | 0, p, s, hp, hs, hf => by
    have := nodup_sub_len _ _ hs.nodup hs.sub
    simp at this; omega
  | f + 1, p, s, hp, hs, hf => by
    rw [reachF]
    by_cases h1 : (alook s.ways p).isSome = true ∨ maxPacks < s.many
    · rw [if_pos h1]; exact ⟨s, rfl, hs, Nat.le_refl _⟩
    · rw [if_neg h1]
      have hn : alook s.ways p = none := by
        cases h : alook s.ways p with
        | none => rfl
        | some v => exact absurd (.inl (by rw [h]; rfl)) h1
      have hok : ∀ (v : List Way) (m : Nat), RSOk U ⟨aput s.ways p v, m⟩ := fun v m => by
        have hk := alook_none.1 hn
        refine ⟨?_, ?_⟩
        · simp only; rw [aput_new hk, List.map_append, List.nodup_append]
          exact ⟨hs.nodup, by simp, fun a ha b hb e => by simp at hb; rw [e, hb] at ha; exact hk ha⟩
        · intro q hq
          simp only at hq
          rw [aput_new hk, List.map_append, List.mem_append] at hq
          rcases hq with hq | hq
          · exact hs.sub q hq
          · simp at hq; rw [hq]; exact hp
      by_cases h2 : p.y.t = true
      · rw [if_pos h2]
        exact ⟨_, rfl, hok _ _, by simp only; rw [aput_len_new hn]; omega⟩
      · rw [if_neg h2]
        have hp2 := hU p hp (by simpa using h2) s.many
        generalize rulesF g x M p s.many = r at hp2
        obtain ⟨s', h3, h4, h5⟩ := foldlM_some (f := fun s v => v.kids.foldlM (fun s k => reachF g x M f k s) s) r.1 (⟨aput s.ways p r.1, r.2⟩ : RS) (fun s' => RSOk U s' ∧ s.ways.length + 1 ≤ s'.ways.length) ⟨hok _ _, by simp only; rw [aput_len_new hn]; omega⟩ (by
          intro s1 v h3 hv
          exact foldlM_some v.kids s1 _ h3 (by
            intro s2 k h4 hk
            obtain ⟨s3, h5, h6, h7⟩ := reachF_some hU f k s2 (hp2 v hv k hk) h4.1 (by omega)
            exact ⟨s3, h5, h6, by omega⟩))
        exact ⟨s', h3, h4, by omega⟩

/-- more fuel gives the same -/
theorem foldlM_mono {α σ : Type} {f f' : σ → α → Option σ} (h : ∀ s a s', f s a = some s' → f' s a = some s') : ∀ (l : List α) (s s' : σ), l.foldlM f s = some s' → l.foldlM f' s = some s'
  | [], s, s', h1 => h1
  | a :: l, s, s', h1 => by
    rw [List.foldlM_cons] at h1 ⊢
    cases h2 : f s a with
    | none => rw [h2] at h1; cases h1
    | some s1 => rw [h2] at h1; rw [h _ _ _ h2]; exact foldlM_mono h l s1 s' h1
end Go.Proofs.Ytdbkbkopcnkgcaa
