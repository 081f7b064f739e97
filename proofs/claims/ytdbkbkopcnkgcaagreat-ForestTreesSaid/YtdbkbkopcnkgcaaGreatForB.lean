import Derived.Test.YtdbkbkopcnkgcaaGreatMeanD
import Derived.Test.YtdbkbkopcnkgcaaGreatIter
open Go Go.RowKit
namespace Go.Proofs.YtdbkbkopcnkgcaaGreat

/-! ### forests: the plain side -/
structure Part where
  y : Sym
  i : Nat
  j : Nat
deriving DecidableEq, Repr, Inhabited
structure Way where
  rule : Nat
  kids : List Part
deriving DecidableEq, Repr, Inhabited

def maxPacks : Nat := 20000
/-- ends lie behind their beginnings -/
def MLow (M : List (List Nat)) : Prop := ∀ n i j, (entry M n i).testBit j = true → i ≤ j

/-- one position of split's loop -/
def splitAt (x : List Int) (M : List (List Nat)) (j a : Nat) (y : Sym) (l : List Sym) (f : Nat → List Way × Nat → List Way × Nat) (s : List Way × Nat) (p : Nat) : List Way × Nat :=
  if s.2 ≤ maxPacks ∧ (aft1 x M y a).testBit p = true ∧ (seqEnds x M l (2 ^ p)).testBit j = true then f p s else s
/-- all ways by which the symbols l derive the part from a on up to j -/
def splitF (x : List Int) (M : List (List Nat)) (rule j : Nat) : List Sym → Nat → List Part → List Way × Nat → List Way × Nat
  | [], _, kids, s => (s.1 ++ [⟨rule, kids⟩], s.2 + 1)
  | y :: l, a, kids, s => (List.range' a (j + 1 - a)).foldl (splitAt x M j a y l fun p s => splitF x M rule j l p (kids ++ [⟨y, a, p⟩]) s) s

/-- what one rule gives -/
def ruleF (x : List Int) (M : List (List Nat)) (p : Part) (s : List Way × Nat) (rn : Rule × Nat) : List Way × Nat :=
  if rn.1.l = p.y.n ∧ (seqEnds x M rn.1.r (2 ^ p.i)).testBit p.j = true then splitF x M rn.2 p.j rn.1.r p.i [] s else s
def rulesF (g : Gram) (x : List Int) (M : List (List Nat)) (p : Part) (m : Nat) : List Way × Nat := g.rules.zipIdx.foldl (ruleF x M p) ([], m)

structure RS where
  ways : List (Part × List Way)
  many : Nat

def reachF (g : Gram) (x : List Int) (M : List (List Nat)) : Nat → Part → RS → Option RS
  | 0, _, _ => none
  | f + 1, p, s =>
    if (alook s.ways p).isSome = true ∨ maxPacks < s.many then some s
    else if p.y.t = true then some ⟨aput s.ways p [], s.many⟩
    else
      let r := rulesF g x M p s.many
      r.1.foldlM (fun s v => v.kids.foldlM (fun s k => reachF g x M f k s) s) ⟨aput s.ways p r.1, r.2⟩

/-! #### the loops, step by step -/
theorem range'_snoc (a n : Nat) : List.range' a (n + 1) = List.range' a n ++ [a + n] := by
  rw [List.range'_concat]; simp
theorem splitAt_stop {x : List Int} {M : List (List Nat)} {j a : Nat} {y : Sym} {l : List Sym} {f : Nat → List Way × Nat → List Way × Nat} {s : List Way × Nat} (h : maxPacks < s.2) : ∀ ps : List Nat, ps.foldl (splitAt x M j a y l f) s = s
  | [] => rfl
  | p :: ps => by
    rw [List.foldl_cons]
    have : splitAt x M j a y l f s p = s := by unfold splitAt; rw [if_neg (by omega)]
    rw [this, splitAt_stop h ps]
theorem splitF_nil {x : List Int} {M : List (List Nat)} {rule j a : Nat} {kids : List Part} {s : List Way × Nat} : splitF x M rule j [] a kids s = (s.1 ++ [⟨rule, kids⟩], s.2 + 1) := by rw [splitF]
theorem splitF_cons {x : List Int} {M : List (List Nat)} {rule j a : Nat} {y : Sym} {l : List Sym} {kids : List Part} {s : List Way × Nat} :
    splitF x M rule j (y :: l) a kids s = (List.range' a (j + 1 - a)).foldl (splitAt x M j a y l fun p s => splitF x M rule j l p (kids ++ [⟨y, a, p⟩]) s) s := by rw [splitF]

/-- how the ways begin and grow -/
theorem splitF_many {x : List Int} {M : List (List Nat)} {rule j : Nat} : ∀ (l : List Sym) (a : Nat) (kids : List Part) (s : List Way × Nat), ∃ ws, splitF x M rule j l a kids s = (s.1 ++ ws, s.2 + ws.length)
  | [], a, kids, s => ⟨[⟨rule, kids⟩], by rw [splitF_nil]; rfl⟩
  | y :: l, a, kids, s => by
    rw [splitF_cons]
    have key : ∀ (ps : List Nat) (s : List Way × Nat), ∃ ws, ps.foldl (splitAt x M j a y l fun p s => splitF x M rule j l p (kids ++ [⟨y, a, p⟩]) s) s = (s.1 ++ ws, s.2 + ws.length) := by
      intro ps
      induction ps with
      | nil => intro s; exact ⟨[], by simp⟩
      | cons p ps ih =>
        intro s
        rw [List.foldl_cons]
        obtain ⟨w1, h1⟩ : ∃ ws, splitAt x M j a y l (fun p s => splitF x M rule j l p (kids ++ [⟨y, a, p⟩]) s) s p = (s.1 ++ ws, s.2 + ws.length) := by
          unfold splitAt
          split
          · exact splitF_many l p (kids ++ [⟨y, a, p⟩]) s
          · exact ⟨[], by simp⟩
        obtain ⟨w2, h2⟩ := ih (s.1 ++ w1, s.2 + w1.length)
        rw [h1, h2]
        exact ⟨w1 ++ w2, by simp [Nat.add_assoc]⟩
    exact key _ s

/-- no more than one too many -/
theorem splitF_le {x : List Int} {M : List (List Nat)} {rule j : Nat} : ∀ (l : List Sym) (a : Nat) (kids : List Part) (s : List Way × Nat), s.2 ≤ maxPacks → (splitF x M rule j l a kids s).2 ≤ maxPacks + 1
  | [], a, kids, s, h => by rw [splitF_nil]; simp only; omega
  | y :: l, a, kids, s, h => by
    rw [splitF_cons]
    have key : ∀ (ps : List Nat) (s : List Way × Nat), s.2 ≤ maxPacks + 1 → (ps.foldl (splitAt x M j a y l fun p s => splitF x M rule j l p (kids ++ [⟨y, a, p⟩]) s) s).2 ≤ maxPacks + 1 := by
      intro ps
      induction ps with
      | nil => intro s h; exact h
      | cons p ps ih =>
        intro s h
        rw [List.foldl_cons]
        apply ih
        unfold splitAt
        split
        · rename_i h2; exact splitF_le l p _ s h2.1
        · exact h
    exact key _ s (by omega)

/-- the kids of the ways that split adds -/
structure OkKids (g : Gram) (x : List Int) (v : Way) : Prop where
  ok : ∀ k ∈ v.kids, OkSym g k.y ∧ k.i ≤ x.length ∧ k.j ≤ x.length
  short : v.kids.length ≤ 4

theorem splitF_ok {g : Gram} {x : List Int} {M : List (List Nat)} {rule j : Nat} (hj : j ≤ x.length) : ∀ (l : List Sym) (a : Nat) (kids : List Part) (s : List Way × Nat), (∀ y ∈ l, OkSym g y) → a ≤ x.length → (∀ k ∈ kids, OkSym g k.y ∧ k.i ≤ x.length ∧ k.j ≤ x.length) → kids.length + l.length ≤ 4 → (∀ v ∈ s.1, OkKids g x v) →
    ∀ v ∈ (splitF x M rule j l a kids s).1, OkKids g x v
  | [], a, kids, s, _, _, hk, hl, hs => by
    rw [splitF_nil]
    intro v hv
    rcases List.mem_append.1 hv with hv | hv
    · exact hs v hv
    · simp only [List.mem_singleton] at hv
      rw [hv]
      exact ⟨hk, by simpa using hl⟩
  | y :: l, a, kids, s, hy, ha, hk, hl, hs => by
    rw [splitF_cons]
    have key : ∀ (ps : List Nat) (s : List Way × Nat), (∀ p ∈ ps, p ≤ j) → (∀ v ∈ s.1, OkKids g x v) → ∀ v ∈ (ps.foldl (splitAt x M j a y l fun p s => splitF x M rule j l p (kids ++ [⟨y, a, p⟩]) s) s).1, OkKids g x v := by
      intro ps
      induction ps with
      | nil => intro s _ h; exact h
      | cons p ps ih =>
        intro s hp h
        rw [List.foldl_cons]
        have hpj := hp p (List.mem_cons_self ..)
        apply ih _ (fun q hq => hp q (List.mem_cons_of_mem _ hq))
        unfold splitAt
        split
        · refine splitF_ok hj l p _ s (fun z hz => hy z (List.mem_cons_of_mem _ hz)) (by omega) ?_ (by simp at hl ⊢; omega) h
          intro k hk2
          rcases List.mem_append.1 hk2 with hk2 | hk2
          · exact hk k hk2
          · simp only [List.mem_singleton] at hk2
            rw [hk2]
            exact ⟨hy y (List.mem_cons_self ..), ha, by simp only; omega⟩
        · exact h
    exact key _ s (fun p hp => by rw [List.mem_range'_1] at hp; omega) hs

theorem rulesF_ok {g : Gram} {x : List Int} {M : List (List Nat)} (hv : Valid g) {p : Part} (hi : p.i ≤ x.length) (hj : p.j ≤ x.length) (m : Nat) : ∀ v ∈ (rulesF g x M p m).1, OkKids g x v := by
  unfold rulesF
  have key : ∀ (l : List (Rule × Nat)) (s : List Way × Nat), (∀ q ∈ l, OkRule g q.1) → (∀ v ∈ s.1, OkKids g x v) → ∀ v ∈ (l.foldl (ruleF x M p) s).1, OkKids g x v := by
    intro l
    induction l with
    | nil => intro s _ h; exact h
    | cons q l ih =>
      intro s hq h
      rw [List.foldl_cons]
      apply ih _ (fun q' h' => hq q' (List.mem_cons_of_mem _ h'))
      have hr := hq q (List.mem_cons_self ..)
      unfold ruleF
      split
      · exact splitF_ok hj _ _ _ s hr.syms hi (by simp) (by simpa using hr.len) h
      · exact h
  refine key _ _ (fun q hq => ?_) (by simp)
  exact hv.ok _ (List.fst_mem_of_mem_zipIdx hq)

/-! #### reach comes to an end -/
theorem foldlM_some {α σ : Type} {f : σ → α → Option σ} : ∀ (l : List α) (s : σ) (P : σ → Prop), P s → (∀ s a, P s → a ∈ l → ∃ s', f s a = some s' ∧ P s') → ∃ s', l.foldlM f s = some s' ∧ P s'
  | [], s, P, h, _ => ⟨s, rfl, h⟩
  | a :: l, s, P, h, hf => by
    obtain ⟨s1, h1, h2⟩ := hf s a h (List.mem_cons_self ..)
    obtain ⟨s2, h3, h4⟩ := foldlM_some l s1 P h2 (fun s b hs hb => hf s b hs (List.mem_cons_of_mem _ hb))
    exact ⟨s2, by rw [List.foldlM_cons, h1]; exact h3, h4⟩

theorem aput_len_new {κ ν : Type} [DecidableEq κ] {l : List (κ × ν)} {k : κ} {v : ν} (h : alook l k = none) : (aput l k v).length = l.length + 1 := by
  rw [aput_new (alook_none.1 h)]; simp

/-- the state of reach as it should be -/
structure RSOk (U : List Part) (s : RS) : Prop where
  nodup : (s.ways.map (·.1)).Nodup
  sub : ∀ p ∈ s.ways.map (·.1), p ∈ U

theorem nodup_sub_len {α : Type} [DecidableEq α] : ∀ (l m : List α), l.Nodup → (∀ a ∈ l, a ∈ m) → l.length ≤ m.length
  | [], _, _, _ => by simp
  | a :: l, m, h, hs => by
    have h1 := nodup_sub_len l (m.erase a) (List.nodup_cons.1 h).2 (fun b hb => by
      have hne : b ≠ a := fun e => (List.nodup_cons.1 h).1 (e ▸ hb)
      exact (List.mem_erase_of_ne hne).2 (hs b (List.mem_cons_of_mem _ hb)))
    have hm : a ∈ m := hs a (List.mem_cons_self ..)
    have := List.length_erase_of_mem hm
    have : 0 < m.length := List.length_pos_of_mem hm
    simp only [List.length_cons]; omega

theorem reachF_some {g : Gram} {x : List Int} {M : List (List Nat)} {U : List Part} (hU : ∀ p ∈ U, p.y.t = false → ∀ m, ∀ v ∈ (rulesF g x M p m).1, ∀ k ∈ v.kids, k ∈ U) :
    ∀ (f : Nat) (p : Part) (s : RS), p ∈ U → RSOk U s → U.length < f + s.ways.length → ∃ s', reachF g x M f p s = some s' ∧ RSOk U s' ∧ s.ways.length ≤ s'.ways.length
  | 0, p, s, hp, hs, hf => by
    have := nodup_sub_len _ _ hs.nodup hs.sub
    simp at this; omega
  | f + 1, p, s, hp, hs, hf => by
    rw [reachF]
    by_cases h1 : (alook s.ways p).isSome = true ∨ maxPacks < s.many
    · rw [if_pos h1]; exact ⟨s, rfl, hs, Nat.le_refl _⟩
    · rw [if_neg h1]
      have hn : alook s.ways p = none := by
        cases h : alook s.ways p with
        | none => rfl
        | some v => exact absurd (.inl (by rw [h]; rfl)) h1
      have hok : ∀ (v : List Way) (m : Nat), RSOk U ⟨aput s.ways p v, m⟩ := fun v m => by
        have hk := alook_none.1 hn
        refine ⟨?_, ?_⟩
        · simp only; rw [aput_new hk, List.map_append, List.nodup_append]
          exact ⟨hs.nodup, by simp, fun a ha b hb e => by simp at hb; rw [e, hb] at ha; exact hk ha⟩
        · intro q hq
          simp only at hq
          rw [aput_new hk, List.map_append, List.mem_append] at hq
          rcases hq with hq | hq
          · exact hs.sub q hq
          · simp at hq; rw [hq]; exact hp
      by_cases h2 : p.y.t = true
      · rw [if_pos h2]
        exact ⟨_, rfl, hok _ _, by simp only; rw [aput_len_new hn]; omega⟩
      · rw [if_neg h2]
        have hp2 := hU p hp (by simpa using h2) s.many
        generalize rulesF g x M p s.many = r at hp2
        obtain ⟨s', h3, h4, h5⟩ := foldlM_some (f := fun s v => v.kids.foldlM (fun s k => reachF g x M f k s) s) r.1 (⟨aput s.ways p r.1, r.2⟩ : RS) (fun s' => RSOk U s' ∧ s.ways.length + 1 ≤ s'.ways.length) ⟨hok _ _, by simp only; rw [aput_len_new hn]; omega⟩ (by
          intro s1 v h3 hv
          exact foldlM_some v.kids s1 _ h3 (by
            intro s2 k h4 hk
            obtain ⟨s3, h5, h6, h7⟩ := reachF_some hU f k s2 (hp2 v hv k hk) h4.1 (by omega)
            exact ⟨s3, h5, h6, by omega⟩))
        exact ⟨s', h3, h4, by omega⟩

/-- more fuel gives the same -/
theorem foldlM_mono {α σ : Type} {f f' : σ → α → Option σ} (h : ∀ s a s', f s a = some s' → f' s a = some s') : ∀ (l : List α) (s s' : σ), l.foldlM f s = some s' → l.foldlM f' s = some s'
  | [], s, s', h1 => h1
  | a :: l, s, s', h1 => by
    rw [List.foldlM_cons] at h1 ⊢
    cases h2 : f s a with
    | none => rw [h2] at h1; cases h1
    | some s1 => rw [h2] at h1; rw [h _ _ _ h2]; exact foldlM_mono h l s1 s' h1
end Go.Proofs.YtdbkbkopcnkgcaaGreat

open Go Go.RowKit
namespace Go.Proofs.YtdbkbkopcnkgcaaGreat

/-- the maker of a forest in memory -/
structure MkAt (F : Nat → Prop) (w : World) (bm : Nat) (g : Gram) (x : List Int) (M : List (List Nat)) (A : Option Addr) (c : Nat) (B : Option Addr) (d : Nat) (C : Option Addr) (q : Nat) (wm : Value) (many : Nat) : Prop where
  blk : w.heap[bm]? = some (.cells #[.int .i64 g.terms, .int .i64 g.nons, .int .i64 g.start, .slice A g.rules.length c, .slice B x.length d, .slice C M.length q, wm, .int .i64 many] 56 (0, 0))
  rules : IsSl Elt.rule F w (.slice A g.rules.length c) g.rules
  word : IsSl Elt.int F w (.slice B x.length d) x
  mat : IsSl (Elt.sl Elt.u32) F w (.slice C M.length q) M

section
variable {F : Nat → Prop} {w : World} {bm : Nat} {g : Gram} {x : List Int} {M : List (List Nat)} {A : Option Addr} {c : Nat} {B : Option Addr} {d : Nat} {C : Option Addr} {q : Nat} {wm : Value} {many : Nat}

theorem MkAt.below {w' : World} (h : MkAt F w bm g x M A c B d C q wm many) (hb : Below w.heap.size w w') : MkAt F w' bm g x M A c B d C q wm many :=
  ⟨blk_below hb (blk_lt h.blk) h.blk, h.rules.below hb, h.word.below hb, h.mat.below hb⟩

set_option maxRecDepth 100000 in
set_option maxHeartbeats 400000 in
theorem fafter_any (y : Sym) (i : Nat) (w : World) (he : MkAt F w bm g x M A c B d C q wm many) (hl : x.length ≤ 12) (hi : i ≤ x.length) (hy : 0 ≤ y.n) (hyn : y.t = false → y.n < M.length) (hM : ∀ r ∈ M, r.length = x.length + 1) :
    Calls Tryz.prog 54 #[.pointer (some ⟨bm, 0, none⟩), symV y, .int .i64 i] w fun e w' => e = .returned (.int .u32 (aft1 x M y i)) ∧ Below w.heap.size w w' := by
  have hc4 := blk_cell he.blk (i := 4) rfl
  have hc5 := blk_cell he.blk (i := 5) rfl
  have hbm := blk_lt he.blk
  have hmn := he.mat.len.2
  unfold symV
  obtain ⟨yt, yn⟩ := y
  simp only at hy
  cases yt
  · have hyn' := hyn rfl
    simp only at hyn'
    obtain ⟨b, o, rfl, hF, hl2, A2, c2, hc6, hro⟩ := he.mat.rowAt yn.toNat (by omega)
    have hrl := hM M[yn.toNat] (by simp)
    obtain ⟨b3, o3, rfl, hF3, hl3, hc7⟩ := hro.oneAt i (by omega)
    have ha : aft1 x M ⟨false, yn⟩ i = M[yn.toNat][i] := by simp [aft1, List.getD_eq_getElem?_getD, List.getElem?_eq_getElem (show yn.toNat < M.length by omega), List.getElem?_eq_getElem (show i < M[yn.toNat].length by omega)]
    have HA := Lib.hid ha
    clear ha
    have hil : i < M[yn.toNat].length := by omega
    go_enter Tryz.func54, Tryz.ntmps54
    go_wp2_with fail
    go_quiet (fail)
    go_wp2
    go_ret
    exact ⟨ret_int (by rw [HA.out]), below_drewN ((Below.refl _ _).alloc (Nat.le_refl _) _) _⟩
  · by_cases hk2 : i < x.length
    · obtain ⟨b3, o3, rfl, hF3, hl3, hc7⟩ := he.word.oneAt i hk2
      by_cases hxe : x[i] = yn
      · have hxe' : (x[i] == yn) = true := by simp [hxe]
        have ha : aft1 x M ⟨true, yn⟩ i = 2 ^ (i + 1) := by simp [aft1, List.getElem?_eq_getElem hk2, hxe]
        have HA := Lib.hid ha
        clear ha hxe
        go_enter Tryz.func54, Tryz.ntmps54
        go_wp2_with fail
        go_quiet (fail)
        go_wp2
        go_ret
        exact ⟨ret_int (by rw [HA.out, pow_mod13 (by omega)]), below_drewN ((Below.refl _ _).alloc (Nat.le_refl _) _) _⟩
      · have hxe' : (x[i] == yn) = false := by simp [hxe]
        have ha : aft1 x M ⟨true, yn⟩ i = 0 := by simp [aft1, List.getElem?_eq_getElem hk2, hxe]
        have HA := Lib.hid ha
        clear ha hxe
        go_enter Tryz.func54, Tryz.ntmps54
        go_wp2_with fail
        go_quiet (fail)
        go_wp2
        go_ret
        exact ⟨ret_int (by rw [HA.out]; rfl), below_drewN ((Below.refl _ _).alloc (Nat.le_refl _) _) _⟩
    · have ha : aft1 x M ⟨true, yn⟩ i = 0 := by simp [aft1, List.getElem?_eq_none (show x.length ≤ i by omega)]
      have HA := Lib.hid ha
      clear ha
      have hd : decide (i < x.length) = false := by simpa using hk2
      go_enter Tryz.func54, Tryz.ntmps54
      go_wp2_with fail
      go_quiet (fail)
      go_wp2
      go_ret
      exact ⟨ret_int (by rw [HA.out]; rfl), below_drewN ((Below.refl _ _).alloc (Nat.le_refl _) _) _⟩

theorem aftTo_zero {y : Sym} {f : Nat} : ∀ k, (∀ j, j < k → f.testBit j = false) → aftTo x M y f k = 0
  | 0, _ => by simp [aftTo]
  | k + 1, h => by rw [aftTo_no (h k (by omega)), aftTo_zero k (fun j hj => h j (by omega))]

theorem aft1_low (hM : MLow M) {y : Sym} {i j : Nat} (h : (aft1 x M y i).testBit j = true) : i ≤ j := by
  obtain ⟨t, n⟩ := y
  cases t
  · rw [aft1_non] at h; exact hM n i j h
  · obtain ⟨_, rfl⟩ := (aft1_term x M n i j).1 h; omega
theorem seq_low (hM : MLow M) : ∀ (l : List Sym) (f i j : Nat), (∀ k, f.testBit k = true → i ≤ k) → (seqEnds x M l f).testBit j = true → i ≤ j
  | [], _, _, j, hf, h => hf j h
  | y :: l, f, i, j, hf, h => seq_low hM l _ i j (fun k hk => by
      obtain ⟨i', _, h1, h2⟩ := (aftTo_bit x M y f k _).1 hk
      have := hf i' h1
      have := aft1_low hM h2
      omega) h

set_option maxRecDepth 100000 in
set_option maxHeartbeats 800000 in
theorem run_any (F2 : Nat → Prop) (l : List Sym) (L : Option Addr) (n cl : Nat) (i : Nat) (w : World) (he : MkAt F w bm g x M A c B d C q wm many) (hs : IsSl Elt.sym F2 w (.slice L n cl) l) (hl : x.length ≤ 12) (hi : i ≤ x.length) (hy : ∀ y ∈ l, 0 ≤ y.n ∧ (y.t = false → y.n < M.length)) (hM : ∀ r ∈ M, r.length = x.length + 1) (hM2 : ∀ r ∈ M, ∀ v ∈ r, v < 2 ^ 32) (hlow : MLow M) :
    Calls Tryz.prog 35 #[.pointer (some ⟨bm, 0, none⟩), .slice L n cl, .int .i64 i] w fun e w' => e = .returned (.int .u32 (seqEnds x M l (2 ^ i))) ∧ Below w.heap.size w w' := by
  obtain ⟨rfl, hn⟩ := hs.len
  have hpw := Lib.hid (pow_mod13 (k := i) (by omega))
  have hbm := blk_lt he.blk
  go_enter Tryz.func35, Tryz.ntmps35
  go_wp2
  go_loopg [7, 16] l.length (fun gk now k wr => ∃ e : Nat, e ≤ l.length ∧ gk = l.length - e ∧ k = .int .i64 e ∧ now = .int .u32 (seqEnds x M (l.take e) (2 ^ i)) ∧ Below w.heap.size w wr)
  case atStart => exact ⟨0, by omega, by omega, rfl, by rw [hpw.out]; rfl, Below.refl _ _⟩
  case round =>
    obtain ⟨e, hel, rfl, rfl, rfl, hb⟩ := hrel
    have hsz := hb.size
    by_cases hlt : e < l.length
    · obtain ⟨b3, o3, rfl, hF3, hl3, hc3, hc4⟩ := (hs.below hb).symAt e hlt
      have hye := hy l[e] (by simp)
      have hst := seqEnds_take (x := x) (M := M) (f := 2 ^ i) hlt
      have HS := Lib.hid hst
      clear hst
      have hf32 := seqEnds_lt hM2 hl (l.take e) (2 ^ i) (pow_lt13 (by omega))
      have hflow : ∀ k, (seqEnds x M (l.take e) (2 ^ i)).testBit k = true → i ≤ k := fun k hk => seq_low hlow (l.take e) (2 ^ i) i k (fun k' hk' => by rw [Nat.testBit_two_pow] at hk'; have : i = k' := (by simpa using hk'); omega) hk
      generalize l[e] = y at hc3 hc4 hye HS
      generalize seqEnds x M (l.take e) (2 ^ i) = f at HS hf32 hflow
      have h0 := Lib.hid (aftTo_zero (x := x) (M := M) (y := y) (f := f) i (fun j hj => by
        cases h : f.testBit j with
        | false => rfl
        | true => have := hflow j h; omega))
      obtain ⟨wo, rfl⟩ : ∃ wo : World, wo = wr := ⟨_, rfl⟩
      go_wp2_with fail
      have hsy := heap_alloc_new wo (.cells #[.bool y.t, .int .i64 y.n] 70)
      have hbs : Below w.heap.size w (wo.alloc (.cells #[.bool y.t, .int .i64 y.n] 70)) := hb.alloc hsz _
      clear hc3 hc4 hflow
      go_loopg [10, 11] (x.length + 1 - i) (fun gk nx p wr => ∃ a : Nat, i ≤ a ∧ a ≤ x.length + 1 ∧ gk = x.length + 1 - a ∧ p = .int .i64 a ∧ nx = .int .u32 (aftTo x M y f a) ∧ Below w.heap.size w wr ∧ wr.heap[wo.heap.size]? = some (.cells #[.bool y.t, .int .i64 y.n] 70 (0, 0)))
      case atStart => exact ⟨i, by omega, by omega, by omega, rfl, by rw [h0.out]; rfl, hbs, hsy⟩
      case round =>
        clear hbs hsy hb
        obtain ⟨a, hia, ha, rfl, rfl, rfl, hb, hsy⟩ := hrel
        have hmk := he.below hb
        have hc4 := blk_cell hmk.blk (i := 4) rfl
        by_cases hlt2 : a < x.length + 1
        · have haz : a ≤ x.length := by omega
          have hto := aftTo_lt x M y f hM2 a (by omega)
          have hs0 := blk_cell hsy (i := 0) rfl
          have hs1 := blk_cell hsy (i := 1) rfl
          have hwl := blk_lt hsy
          cases hbit : f.testBit a
          · have hbt : (bits BinOp.and IntKind.u32 ((f : Int) / 2 ^ a) 1 == 1) = false := by rw [bit_test1 f a hf32, hbit]
            have hst := aftTo_no (x := x) (M := M) (y := y) hbit
            have HN := Lib.hid hst
            clear hst hbit
            go_wp2_with fail
            go_roundg (x.length + 1 - (a + 1))
            case measure => omega
            case rel => exact ⟨a + 1, by omega, by omega, rfl, by go_num, by rw [HN.out], hb, hsy⟩
          · have hbt : (bits BinOp.and IntKind.u32 ((f : Int) / 2 ^ a) 1 == 1) = true := by rw [bit_test1 f a hf32, hbit]
            have hst := aftTo_yes (x := x) (M := M) (y := y) hbit
            have hto2 := aft1_lt x M y a (by omega) hM2
            have hor := u32_or_nat (aftTo x M y f a) (aft1 x M y a) hto hto2
            rw [← hst] at hor
            have HO := Lib.hid hor
            clear hst hbit hor
            go_wp2_with fail
            refine (fafter_any y a _ hmk hl haz hye.1 hye.2 hM).mono ?_
            rintro e2 w2 ⟨rfl, hb2⟩
            go_wp2
            go_roundg (x.length + 1 - (a + 1))
            case measure => omega
            case rel => exact ⟨a + 1, by omega, by omega, rfl, by go_num, by rw [HO.out], hb.trans (hb2.mono hb.size), blk_below hb2 hwl hsy⟩
        · obtain rfl : a = x.length + 1 := by omega
          have haz : decide (((x.length + 1 : Nat) : Int) ≤ (x.length : Int)) = false := by simp; omega
          go_wp2_with fail
          go_roundg (l.length - (e + 1))
          case measure => omega
          case rel => exact ⟨e + 1, by omega, rfl, by go_num, by rw [HS.out], hb⟩
    · obtain rfl : e = l.length := by omega
      rw [List.take_length]
      go_wp2
      go_ret
      exact ⟨rfl, hb⟩
end
end Go.Proofs.YtdbkbkopcnkgcaaGreat
