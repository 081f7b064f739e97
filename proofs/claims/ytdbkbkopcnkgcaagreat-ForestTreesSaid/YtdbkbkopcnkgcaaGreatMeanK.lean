import Derived.Test.YtdbkbkopcnkgcaaGreatMeanI
open Go Go.RowKit
namespace Go.Proofs.YtdbkbkopcnkgcaaGreat

/-! ### mean.Count: the plain side -/
structure MPart where
  n : Int
  i : Nat
  j : Nat
deriving DecidableEq, Repr, Inhabited
structure CM where
  done : List (MPart × Int)
  op : List (MPart × Bool)
deriving DecidableEq, Repr, Inhabited

/-- the ends that splits gives -/
def splC (x : List Int) (M : List (List Nat)) (j : Nat) (l : List Sym) (i : Nat) : List (List Nat) := if (rchS x M j l).testBit i = true then splL x M j l i else []
/-- the product over the symbols of a rule with their ends -/
def prodM (F : MPart → CM → Int × CM) : List Sym → List Nat → Nat → Int × CM → Int × CM
  | y :: l, p :: L, a, s => prodM F l L p (if y.t = true then s else (mulC s.1 (F ⟨y.n, a, p⟩ s.2).1, (F ⟨y.n, a, p⟩ s.2).2))
  | _, _, _, s => s
/-- one way of a rule is taken into the sum -/
def wayM (F : MPart → CM → Int × CM) (r : Rule) (i : Nat) (s : Int × CM) (L : List Nat) : Int × CM := (addC s.1 (prodM F r.r L i (1, s.2)).1, (prodM F r.r L i (1, s.2)).2)
def ruleM (F : MPart → CM → Int × CM) (x : List Int) (M : List (List Nat)) (y : MPart) (s : Int × CM) (r : Rule) : Int × CM := if r.l = y.n then (splC x M y.j r.r y.i).foldl (wayM F r y.i) s else s
def cntP (g : Gram) (x : List Int) (M : List (List Nat)) : Nat → MPart → CM → Int × CM
  | 0, _, s => (0, s)
  | f + 1, y, s => match alook s.done y with
    | some v => (v, s)
    | none => if (alook s.op y).getD false = true then (-1, s) else
      ((g.rules.foldl (ruleM (cntP g x M f) x M y) (0, ⟨s.done, aput s.op y true⟩)).1, ⟨aput (g.rules.foldl (ruleM (cntP g x M f) x M y) (0, ⟨s.done, aput s.op y true⟩)).2.done y (g.rules.foldl (ruleM (cntP g x M f) x M y) (0, ⟨s.done, aput s.op y true⟩)).1, aput (g.rules.foldl (ruleM (cntP g x M f) x M y) (0, ⟨s.done, aput s.op y true⟩)).2.op y false⟩)

section
variable {g : Gram} {x : List Int} {M : List (List Nat)} {j : Nat}

theorem splL_le : ∀ {l : List Sym} {a : Nat} {L : List Nat}, L ∈ splL x M j l a → L.length = l.length ∧ ∀ p ∈ L, p ≤ j
  | [], a, L, h => by
    unfold splL at h
    rw [List.mem_singleton] at h
    rw [h]; simp
  | y :: l, a, L, h => by
    unfold splL at h
    rw [List.mem_flatMap] at h
    obtain ⟨p, hp, h⟩ := h
    split at h
    · rw [List.mem_map] at h
      obtain ⟨L', h1, rfl⟩ := h
      obtain ⟨h2, h3⟩ := splL_le h1
      refine ⟨by simp [h2], fun q hq => ?_⟩
      rcases List.mem_cons.1 hq with rfl | hq
      · rw [List.mem_range'_1] at hp; omega
      · exact h3 q hq
    · cases h
theorem splC_le {l : List Sym} {i : Nat} {L : List Nat} (h : L ∈ splC x M j l i) : L.length = l.length ∧ ∀ p ∈ L, p ≤ j := by
  unfold splC at h
  split at h
  · exact splL_le h
  · cases h

/-- the parts there are -/
def OkMP (g : Gram) (x : List Int) (y : MPart) : Prop := 0 ≤ y.n ∧ y.n < g.nons ∧ y.i ≤ x.length ∧ y.j ≤ x.length
def partsM (g : Gram) (x : List Int) : List MPart := (List.range g.nons.toNat).flatMap fun n : Nat => (List.range (x.length + 1)).flatMap fun i => (List.range (x.length + 1)).map fun j => ⟨(n : Int), i, j⟩
theorem mem_partsM {y : MPart} (h : OkMP g x y) : y ∈ partsM g x := by
  obtain ⟨h1, h2, h3, h4⟩ := h
  obtain ⟨n, i, j⟩ := y
  simp only at h1 h2 h3 h4
  unfold partsM
  rw [List.mem_flatMap]
  refine ⟨n.toNat, by simp; omega, ?_⟩
  rw [List.mem_flatMap]
  refine ⟨i, by simp; omega, ?_⟩
  rw [List.mem_map]
  exact ⟨j, by simp; omega, by rw [Int.toNat_of_nonneg h1]⟩

/-- the counter's state as it should be: what is no more open is done -/
structure CMOk (g : Gram) (x : List Int) (s : CM) : Prop where
  nodup : (s.op.map (·.1)).Nodup
  sub : ∀ y ∈ s.op.map (·.1), OkMP g x y
  done : ∀ y, alook s.op y = some false → (alook s.done y).isSome = true
  val : ∀ q ∈ s.done, CntV q.2
/-- what a count leaves -/
structure CMStep (s s' : CM) : Prop where
  len : s.op.length ≤ s'.op.length
  same : ∀ y, alook s.op y = some true → alook s'.op y = some true
  done : ∀ y, (alook s.done y).isSome = true → (alook s'.done y).isSome = true
theorem CMStep.refl (s : CM) : CMStep s s := ⟨Nat.le_refl _, fun _ h => h, fun _ h => h⟩
theorem CMStep.trans {a b c : CM} (h : CMStep a b) (k : CMStep b c) : CMStep a c := ⟨Nat.le_trans h.len k.len, fun y hy => k.same y (h.same y hy), fun y hy => k.done y (h.done y hy)⟩

theorem aput_len_le {κ ν : Type} [DecidableEq κ] (l : List (κ × ν)) (k : κ) (v : ν) : l.length ≤ (aput l k v).length := by
  by_cases h : k ∈ l.map (·.1)
  · have := congrArg List.length (aput_keys_old h v)
    rw [List.length_map, List.length_map] at this
    omega
  · rw [aput_new h]; simp
theorem mem_aput {κ ν : Type} [DecidableEq κ] : ∀ (l : List (κ × ν)) (k : κ) (v : ν), ∀ q ∈ aput l k v, q ∈ l ∨ q = (k, v)
  | [], k, v => by intro q h; unfold aput at h; simp at h; exact .inr h
  | (k', v') :: l, k, v => by
    intro q h
    unfold aput at h
    by_cases e : k' = k
    · rw [if_pos e] at h
      rcases List.mem_cons.1 h with h | h
      · right; rw [h, e]
      · exact .inl (List.mem_cons_of_mem _ h)
    · rw [if_neg e] at h
      rcases List.mem_cons.1 h with h | h
      · left; rw [h]; exact List.mem_cons_self ..
      · rcases mem_aput l k v q h with h | h
        · exact .inl (List.mem_cons_of_mem _ h)
        · exact .inr h
end
end Go.Proofs.YtdbkbkopcnkgcaaGreat

open Go Go.RowKit
namespace Go.Proofs.YtdbkbkopcnkgcaaGreat

section
variable {g : Gram} {x : List Int} {M : List (List Nat)}

/-- a count that keeps the state in order -/
def GoodF (g : Gram) (x : List Int) (F : MPart → CM → Int × CM) : Prop := ∀ y s, OkMP g x y → CMOk g x s → CntV (F y s).1 ∧ CMOk g x (F y s).2 ∧ CMStep s (F y s).2
/-- a number beside a state -/
structure NumOk (g : Gram) (x : List Int) (s0 : CM) (s : Int × CM) : Prop where
  num : CntV s.1
  ok : CMOk g x s.2
  step : CMStep s0 s.2

theorem prodM_ok {F : MPart → CM → Int × CM} (hF : GoodF g x F) : ∀ (l : List Sym) (L : List Nat) (a : Nat) (s0 : CM) (s : Int × CM), (∀ y ∈ l, y.t = false → 0 ≤ y.n ∧ y.n < g.nons) → (∀ p ∈ L, p ≤ x.length) → a ≤ x.length → NumOk g x s0 s → NumOk g x s0 (prodM F l L a s)
  | [], L, a, s0, s, _, _, _, h => by unfold prodM; exact h
  | y :: l, [], a, s0, s, _, _, _, h => by unfold prodM; exact h
  | y :: l, p :: L, a, s0, s, hy, hL, ha, h => by
    unfold prodM
    refine prodM_ok hF l L p s0 _ (fun z hz => hy z (List.mem_cons_of_mem _ hz)) (fun q hq => hL q (List.mem_cons_of_mem _ hq)) (hL p (List.mem_cons_self ..)) ?_
    split
    · exact h
    · rename_i ht
      have h1 := hy y (List.mem_cons_self ..) (by simpa using ht)
      obtain ⟨k1, k2, k3⟩ := hF ⟨y.n, a, p⟩ s.2 ⟨h1.1, h1.2, ha, hL p (List.mem_cons_self ..)⟩ h.ok
      exact ⟨mulC_v h.num k1, k2, h.step.trans k3⟩

theorem foldl_inv {α σ : Type} {f : σ → α → σ} {P : σ → Prop} : ∀ (l : List α) (s : σ), P s → (∀ s a, P s → a ∈ l → P (f s a)) → P (l.foldl f s)
  | [], _, h, _ => h
  | a :: l, s, h, hf => foldl_inv l (f s a) (hf s a h (List.mem_cons_self ..)) fun s b hs hb => hf s b hs (List.mem_cons_of_mem _ hb)

theorem wayM_ok {F : MPart → CM → Int × CM} (hF : GoodF g x F) (hv : Valid g) {r : Rule} (hr : r ∈ g.rules) {i j : Nat} (hi : i ≤ x.length) (hj : j ≤ x.length) {s0 : CM} {s : Int × CM} (h : NumOk g x s0 s) {L : List Nat} (hL : ∀ p ∈ L, p ≤ j) : NumOk g x s0 (wayM F r i s L) := by
  have hp := prodM_ok hF r.r L i s0 (1, s.2) (fun y hy ht => by
    have := (hv.ok r hr).syms y hy
    exact ⟨this.n0, this.nn ht⟩) (fun p hp => by have := hL p hp; omega) hi ⟨by unfold CntV maxCount; simp, h.ok, h.step⟩
  exact ⟨addC_v h.num hp.num, hp.ok, hp.step⟩

theorem ruleM_ok {F : MPart → CM → Int × CM} (hF : GoodF g x F) (hv : Valid g) {r : Rule} (hr : r ∈ g.rules) {y : MPart} (hy : OkMP g x y) {s0 : CM} {s : Int × CM} (h : NumOk g x s0 s) : NumOk g x s0 (ruleM F x M y s r) := by
  unfold ruleM
  split
  · exact foldl_inv (P := NumOk g x s0) _ _ h fun s L hs hL => wayM_ok hF hv hr hy.2.2.1 hy.2.2.2 hs (splC_le hL).2
  · exact h

theorem alook_isSome_put {κ ν : Type} [DecidableEq κ] {l : List (κ × ν)} {k : κ} {v : ν} {z : κ} (h : (alook l z).isSome = true) : (alook (aput l k v) z).isSome = true := by
  rw [alook_put]
  split
  · rfl
  · exact h

theorem cntP_ok (hv : Valid g) : ∀ f, GoodF g x (cntP g x M f)
  | 0 => fun y s _ hs => by unfold cntP; exact ⟨by unfold CntV maxCount; simp, hs, CMStep.refl s⟩
  | f + 1 => fun y s hy hs => by
    have ih := cntP_ok hv f
    unfold cntP
    cases hd : alook s.done y with
    | some v => exact ⟨hs.val _ (alook_some hd), hs, CMStep.refl s⟩
    | none =>
      by_cases ho : (alook s.op y).getD false = true
      · rw [if_pos ho]
        exact ⟨by unfold CntV maxCount; simp, hs, CMStep.refl s⟩
      · rw [if_neg ho]
        have hn : alook s.op y = none := by
          cases h : alook s.op y with
          | none => rfl
          | some b =>
            rw [h] at ho
            cases b
            · have := hs.done y h; rw [hd] at this; cases this
            · exact absurd rfl ho
        have hk := alook_none.1 hn
        have h1 : NumOk g x ⟨s.done, aput s.op y true⟩ (0, ⟨s.done, aput s.op y true⟩) := by
          refine ⟨by unfold CntV maxCount; simp, ⟨?_, fun z hz => ?_, fun z hz => ?_, hs.val⟩, CMStep.refl _⟩
          · simp only
            rw [aput_new hk, List.map_append, List.nodup_append]
            exact ⟨hs.nodup, by simp, fun a ha b hb e => by simp at hb; subst hb; subst e; exact hk ha⟩
          · simp only at hz
            rw [aput_new hk, List.map_append] at hz
            rcases List.mem_append.1 hz with hz | hz
            · exact hs.sub z hz
            · simp at hz; rw [hz]; exact hy
          · simp only at hz ⊢
            rw [alook_put] at hz
            split at hz
            · cases hz
            · exact hs.done z hz
        have h2 : NumOk g x ⟨s.done, aput s.op y true⟩ (g.rules.foldl (ruleM (cntP g x M f) x M y) (0, ⟨s.done, aput s.op y true⟩)) := foldl_inv (P := NumOk g x ⟨s.done, aput s.op y true⟩) _ _ h1 fun s1 r h3 hr => ruleM_ok ih hv hr hy h3
        generalize g.rules.foldl (ruleM (cntP g x M f) x M y) (0, ⟨s.done, aput s.op y true⟩) = t at h2
        obtain ⟨tn, t⟩ := t
        obtain ⟨k1, k2, k3⟩ := h2
        simp only at k1 k2 k3 ⊢
        have hty : alook t.op y = some true := k3.same y (by simp only; rw [alook_put, if_pos rfl])
        have htk : y ∈ t.op.map (·.1) := List.mem_map_of_mem (f := (·.1)) (alook_some hty)
        refine ⟨k1, ⟨?_, fun z hz => ?_, fun z hz => ?_, fun q hq => ?_⟩, ⟨?_, fun z hz => ?_, fun z hz => ?_⟩⟩
        · simp only; rw [aput_keys_old htk]; exact k2.nodup
        · simp only at hz; rw [aput_keys_old htk] at hz; exact k2.sub z hz
        · simp only at hz ⊢
          rw [alook_put] at hz
          by_cases e : y = z
          · subst e; rw [alook_put, if_pos rfl]; rfl
          · rw [if_neg e] at hz
            exact alook_isSome_put (k2.done z hz)
        · rcases mem_aput _ _ _ q hq with h | h
          · exact k2.val q h
          · rw [h]; exact k1
        · have a1 := aput_len_le s.op y true
          have a2 := k3.len
          have a3 := aput_len_le t.op y false
          simp only at a2 ⊢
          omega
        · simp only
          have hne : y ≠ z := fun e => by subst e; rw [hn] at hz; cases hz
          rw [alook_put, if_neg hne]
          exact k3.same z (by simp only; rw [alook_put, if_neg hne]; exact hz)
        · exact alook_isSome_put (k3.done z hz)
end
end Go.Proofs.YtdbkbkopcnkgcaaGreat
