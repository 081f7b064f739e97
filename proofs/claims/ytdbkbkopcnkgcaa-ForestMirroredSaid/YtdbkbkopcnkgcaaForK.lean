import Derived.Test.YtdbkbkopcnkgcaaForJ
open Go Go.RowKit
open Go.ChangeMaps (setBlock)
namespace Go.Proofs.Ytdbkbkopcnkgcaa

/-! ### made: plain side -/
section
variable {g : Gram} {x : List Int} {M : List (List Nat)}

theorem splitF_rule {rule j : Nat} : ∀ (l : List Sym) (a : Nat) (kids : List Part) (s : List Way × Nat), ∀ v ∈ (splitF x M rule j l a kids s).1, v ∈ s.1 ∨ v.rule = rule
  | [], a, kids, s => by
    rw [splitF_nil]
    intro v hv
    rcases List.mem_append.1 hv with hv | hv
    · exact .inl hv
    · simp only [List.mem_singleton] at hv; exact .inr (by rw [hv])
  | y :: l, a, kids, s => by
    rw [splitF_cons]
    have key : ∀ (ps : List Nat) (s : List Way × Nat), ∀ v ∈ (ps.foldl (splitAt x M j a y l fun p s => splitF x M rule j l p (kids ++ [⟨y, a, p⟩]) s) s).1, v ∈ s.1 ∨ v.rule = rule := by
      intro ps
      induction ps with
      | nil => intro s v h; exact .inl h
      | cons p ps ih =>
        intro s v h
        rw [List.foldl_cons] at h
        rcases ih _ v h with h | h
        · unfold splitAt at h
          split at h
          · exact splitF_rule l p _ s v h
          · exact .inl h
        · exact .inr h
    exact key _ s

theorem rulesF_more (p : Part) (m : Nat) : (rulesF g x M p m).1.length ≤ (rulesF g x M p m).2 ∧ ∀ v ∈ (rulesF g x M p m).1, v.rule < g.rules.length := by
  unfold rulesF
  have key : ∀ (l : List (Rule × Nat)) (s : List Way × Nat), (∀ q ∈ l, q.2 < g.rules.length) → (s.1.length ≤ s.2 ∧ ∀ v ∈ s.1, v.rule < g.rules.length) → (l.foldl (ruleF x M p) s).1.length ≤ (l.foldl (ruleF x M p) s).2 ∧ ∀ v ∈ (l.foldl (ruleF x M p) s).1, v.rule < g.rules.length := by
    intro l
    induction l with
    | nil => intro s _ h; exact h
    | cons q l ih =>
      intro s hq h
      rw [List.foldl_cons]
      apply ih _ (fun q' h' => hq q' (List.mem_cons_of_mem _ h'))
      have hr := hq q (List.mem_cons_self ..)
      unfold ruleF
      split
      · obtain ⟨ws, hw⟩ := splitF_many (x := x) (M := M) (rule := q.2) (j := p.j) q.1.r p.i [] s
        refine ⟨by rw [hw]; simp only [List.length_append]; omega, fun v hv => ?_⟩
        rcases splitF_rule q.1.r p.i [] s v hv with h2 | h2
        · exact h.2 v h2
        · omega
      · exact h
  exact key _ _ (fun q hq => by have := List.snd_lt_of_mem_zipIdx hq; simpa using this) ⟨Nat.zero_le _, by simp⟩

theorem rulesF_le {p : Part} {m : Nat} (hm : m ≤ maxPacks) (h32 : g.rules.length ≤ 32) : (rulesF g x M p m).2 ≤ maxPacks + 33 := by
  have := rules_le (x := x) (M := M) (p := p) (l := g.rules.zipIdx) hm g.rules.length
  rw [List.take_of_length_le (by simp)] at this
  unfold rulesF; omega

theorem foldlM_inv {α σ : Type} {f : σ → α → Option σ} {P : σ → Prop} : ∀ (l : List α) (s s' : σ), l.foldlM f s = some s' → P s → (∀ s a s1, P s → a ∈ l → f s a = some s1 → P s1) → P s'
  | [], s, s', h, hp, _ => by injection h with h; rw [← h]; exact hp
  | a :: l, s, s', h, hp, hf => by
    rw [List.foldlM_cons] at h
    cases h1 : f s a with
    | none => rw [h1] at h; cases h
    | some s1 =>
      rw [h1] at h
      exact foldlM_inv l s1 s' h (hf s a s1 hp (List.mem_cons_self ..) h1) (fun s b s1 hs hb => hf s b s1 hs (List.mem_cons_of_mem _ hb))

theorem reachF_inv {U : List Part} (hU : ∀ p ∈ U, p.y.t = false → ∀ m, ∀ v ∈ (rulesF g x M p m).1, ∀ k ∈ v.kids, k ∈ U) {P : RS → Prop}
    (ht : ∀ p s, P s → p ∈ U → alook s.ways p = none → s.many ≤ maxPacks → P ⟨aput s.ways p [], s.many⟩) (hn : ∀ p s, P s → p ∈ U → p.y.t = false → alook s.ways p = none → s.many ≤ maxPacks → P ⟨aput s.ways p (rulesF g x M p s.many).1, (rulesF g x M p s.many).2⟩) :
    ∀ (f : Nat) (p : Part) (s s' : RS), reachF g x M f p s = some s' → p ∈ U → P s → P s'
  | 0, p, s, s', h, _, _ => by rw [reachF] at h; cases h
  | f + 1, p, s, s', h, hp, hs => by
    rw [reachF] at h
    by_cases h1 : (alook s.ways p).isSome = true ∨ maxPacks < s.many
    · rw [if_pos h1] at h; injection h with h; rw [← h]; exact hs
    · rw [if_neg h1] at h
      have hnn : alook s.ways p = none := by
        cases h2 : alook s.ways p with
        | none => rfl
        | some v => exact absurd (.inl (by rw [h2]; rfl)) h1
      have hmm : s.many ≤ maxPacks := by
        rcases Nat.lt_or_ge maxPacks s.many with h2 | h2
        · exact absurd (.inr h2) h1
        · exact h2
      by_cases h2 : p.y.t = true
      · rw [if_pos h2] at h; injection h with h; rw [← h]; exact ht p s hs hp hnn hmm
      · rw [if_neg h2] at h
        have h2' : p.y.t = false := by simpa using h2
        have hp2 := hU p hp h2' s.many
        have h3 := hn p s hs hp h2' hnn hmm
        generalize rulesF g x M p s.many = r at h hp2 h3
        refine foldlM_inv r.1 _ s' h h3 fun s1 v s2 hs1 hv h4 => ?_
        exact foldlM_inv v.kids s1 s2 h4 hs1 fun s3 k s4 hs3 hk h5 => reachF_inv hU ht hn f k s3 s4 h5 (hp2 v hv k hk) hs3

/-- all parts -/
def symsF (g : Gram) : List Sym := (List.range g.terms.toNat).map (fun n => ⟨true, (n : Int)⟩) ++ (List.range g.nons.toNat).map (fun n => ⟨false, (n : Int)⟩)
def partsF (g : Gram) (x : List Int) : List Part := (symsF g).flatMap fun y => (List.range (x.length + 1)).flatMap fun i => (List.range (x.length + 1)).map fun j => ⟨y, i, j⟩
theorem mem_partsF {p : Part} (h : OkPart g x p) : p ∈ partsF g x := by
  obtain ⟨⟨t, n⟩, i, j⟩ := p
  have h1 := h.sym.n0
  have h2 := h.i
  have h3 := h.j
  simp only at h1 h2 h3
  unfold partsF symsF
  simp only [List.mem_flatMap, List.mem_append, List.mem_map, List.mem_range]
  refine ⟨⟨t, n⟩, ?_, i, by omega, j, by omega, rfl⟩
  cases t
  · right
    have := h.sym.nn rfl
    simp only at this
    exact ⟨n.toNat, by omega, by congr 1; omega⟩
  · left
    have := h.sym.nt rfl
    simp only at this
    exact ⟨n.toNat, by omega, by congr 1; omega⟩
theorem of_partsF {p : Part} (h : p ∈ partsF g x) : 0 ≤ p.y.n ∧ (p.y.n < g.terms ∨ p.y.n < g.nons) ∧ p.i ≤ x.length ∧ p.j ≤ x.length := by
  unfold partsF symsF at h
  simp only [List.mem_flatMap, List.mem_append, List.mem_map, List.mem_range] at h
  obtain ⟨y, hy, i, hi, j, hj, rfl⟩ := h
  simp only
  rcases hy with ⟨n, hn, rfl⟩ | ⟨n, hn, rfl⟩ <;> simp only <;> omega
theorem partsF_len (hv : Valid g) (hx : x.length ≤ 12) : (partsF g x).length ≤ 3042 := by
  have key : ∀ (l : List Sym), (l.flatMap fun y => (List.range (x.length + 1)).flatMap fun i => (List.range (x.length + 1)).map fun j => (⟨y, i, j⟩ : Part)).length = l.length * ((x.length + 1) * (x.length + 1)) := by
    intro l
    induction l with
    | nil => simp
    | cons a l ih =>
      have hin : ∀ (l1 : List Nat), (l1.flatMap fun i => (List.range (x.length + 1)).map fun j => (⟨a, i, j⟩ : Part)).length = l1.length * (x.length + 1) := by
        intro l1
        induction l1 with
        | nil => simp
        | cons b l1 ih1 => rw [List.flatMap_cons, List.length_append, ih1, List.length_map, List.length_range, List.length_cons, Nat.add_mul, Nat.one_mul, Nat.add_comm]
      rw [List.flatMap_cons, List.length_append, ih, List.length_cons, hin, List.length_range, Nat.add_mul l.length, Nat.one_mul, Nat.add_comm]
  unfold partsF
  rw [key]
  have hs : (symsF g).length ≤ 18 := by
    unfold symsF
    have := hv.t8
    have := hv.n10
    simp; omega
  have h1 : (x.length + 1) * (x.length + 1) ≤ 13 * 13 := Nat.mul_le_mul (by omega) (by omega)
  exact Nat.le_trans (Nat.mul_le_mul hs h1) (by decide)

def rootF (g : Gram) (x : List Int) : Part := ⟨⟨false, g.start⟩, 0, x.length⟩
/-- the forest of some ends, and the error -/
def madeF (g : Gram) (x : List Int) (M : List (List Nat)) : ForD × Int :=
  if (entry M g.start 0).testBit x.length = false then (⟨[], -1⟩, 0) else
    match reachF g x M 4000 (rootF g x) ⟨[], 0⟩ with
    | none => (⟨[], 0⟩, 2)
    | some s => if maxPacks < s.many then (⟨[], 0⟩, 2) else (forestF s (rootF g x), 0)

structure ReachOk (g : Gram) (x : List Int) (s : RS) : Prop where
  ne : s.ways ≠ []
  ok : ∀ p ∈ s.ways.map (·.1), OkB p
  len : s.ways.length ≤ 100000
  wys : ∀ k vs, alook s.ways k = some vs → vs.length ≤ 100000 ∧ ∀ v ∈ vs, v.rule ≤ 1000 ∧ v.kids.length ≤ 4

theorem root_ok (hv : Valid g) : OkPart g x (rootF g x) := ⟨⟨hv.s0, fun h => (by cases h), fun _ => hv.s1⟩, Nat.zero_le _, Nat.le_refl _⟩

theorem reach_root (hv : Valid g) (hx : x.length ≤ 12) : ∃ s, reachF g x M 4000 (rootF g x) ⟨[], 0⟩ = some s ∧ ReachOk g x s := by
  have hU : ∀ p ∈ partsF g x, p.y.t = false → ∀ m, ∀ v ∈ (rulesF g x M p m).1, ∀ k ∈ v.kids, k ∈ partsF g x := fun p hp _ m v hv2 k hk => by
    have h1 := of_partsF hp
    have h2 := (rulesF_ok hv h1.2.2.1 h1.2.2.2 m v hv2).ok k hk
    exact mem_partsF ⟨h2.1, h2.2.1, h2.2.2⟩
  have hl := partsF_len hv hx
  have hr := mem_partsF (root_ok (x := x) hv)
  obtain ⟨s, h1, h2, _⟩ := reachF_some (M := M) hU 4000 (rootF g x) ⟨[], 0⟩ hr ⟨by simp, by simp⟩ (by simp; omega)
  refine ⟨s, h1, ?_⟩
  have hkl := nodup_sub_len _ _ h2.nodup h2.sub
  rw [List.length_map] at hkl
  have hlen := hv.len
  have hw : ∀ k vs, alook s.ways k = some vs → vs.length ≤ 100000 ∧ ∀ v ∈ vs, v.rule ≤ 1000 ∧ v.kids.length ≤ 4 := by
    refine reachF_inv (M := M) hU (P := fun s => ∀ k vs, alook s.ways k = some vs → vs.length ≤ 100000 ∧ ∀ v ∈ vs, v.rule ≤ 1000 ∧ v.kids.length ≤ 4) ?_ ?_ 4000 (rootF g x) _ s h1 hr (by simp [alook])
    · intro p s hs _ _ _ k vs hk
      rw [alook_put] at hk
      split at hk
      · injection hk with hk; rw [← hk]; simp
      · exact hs k vs hk
    · intro p s hs hp _ _ hm k vs hk
      simp only at hk
      rw [alook_put] at hk
      split at hk
      · injection hk with hk
        rw [← hk]
        have h5 := rulesF_more (g := g) (x := x) (M := M) p s.many
        have h6 := rulesF_le (g := g) (x := x) (M := M) (p := p) hm hlen
        have h7 := of_partsF hp
        unfold maxPacks at h6
        exact ⟨by omega, fun v hv2 => ⟨by have := h5.2 v hv2; omega, (rulesF_ok hv h7.2.2.1 h7.2.2.2 s.many v hv2).short⟩⟩
      · exact hs k vs hk
  refine ⟨?_, fun p hp => ?_, by omega, hw⟩
  · intro e
    rw [show (4000 : Nat) = 3999 + 1 from rfl, reachF, if_neg (by simp [alook, maxPacks]), if_neg (by simp [rootF])] at h1
    have := foldlM_inv (P := fun s : RS => s.ways ≠ []) _ _ s h1 (by simp [aput]) fun s1 v s2 hs1 _ h4 => foldlM_inv (P := fun s : RS => s.ways ≠ []) v.kids s1 s2 h4 hs1 fun s3 k s4 hs3 _ h5 => ?_
    · exact this e
    · clear h1 h2 hw
      have hg : ∀ (f : Nat) (p : Part) (s s' : RS), reachF g x M f p s = some s' → s.ways ≠ [] → s'.ways ≠ [] := by
        intro f
        induction f with
        | zero => intro p s s' h; rw [reachF] at h; cases h
        | succ f ih =>
          intro p s s' h hs
          have hap : ∀ {ν : Type} (l : List (Part × ν)) (k : Part) (v : ν), aput l k v ≠ [] := fun l k v => by cases l with
            | nil => simp [aput]
            | cons a l => obtain ⟨a, b⟩ := a; unfold aput; split <;> simp
          rw [reachF] at h
          split at h
          · injection h with h; rw [← h]; exact hs
          · split at h
            · injection h with h; rw [← h]; exact hap _ _ _
            · exact foldlM_inv (P := fun s : RS => s.ways ≠ []) _ _ s' h (hap _ _ _) fun s1 v s2 hs1 _ h4 => foldlM_inv (P := fun s : RS => s.ways ≠ []) v.kids s1 s2 h4 hs1 fun s3 k s4 hs3 _ h5 => ih k s3 s4 h5 hs3
      exact hg _ k s3 s4 h5 hs3
  · have h3 := of_partsF (h2.sub p hp)
    have := hv.t8
    have := hv.n10
    exact ⟨h3.1, by omega, by omega, by omega⟩
end
end Go.Proofs.Ytdbkbkopcnkgcaa
