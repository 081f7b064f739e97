import Derived.Test.YtcndbohiiodndaaMeanB
open Go Go.RowKit
namespace Go.Proofs.Ytcndbohiiodndaa

/-! ### the plain side of package cyk: what the chart's bits mean -/

/-- a symbol derives a part, as far as is known -/
def symK (x : List Int) (K : Nat → Nat → Nat → Bool) (y : Sym) (i j : Nat) : Bool := if y.t then decide (j = i + 1 ∧ x[i]? = some y.n) else K i j y.n.toNat

structure SoundC (g : Gram) (x : List Int) (M : Nat → Nat → Nat → Nat → Bool) (K : Nat → Nat → Nat → Bool) : Prop where
  has : ∀ i j n (h : n < g.rules.length) d, d ≤ g.rules[n].r.length → M i j n d = true → Drv g x (g.rules[n].r.take d) i j
  is : ∀ i j (n : Nat), K i j n = true → Drv g x [⟨false, n⟩] i j

/-- nothing is new for the rule n at the part from i to j -/
structure ClosedN (g : Gram) (x : List Int) (M : Nat → Nat → Nat → Nat → Bool) (K : Nat → Nat → Nat → Bool) (i j n : Nat) (h : n < g.rules.length) : Prop where
  zero : i = j → M i j n 0 = true
  next : ∀ d (hd : d < g.rules[n].r.length) k, i ≤ k → k ≤ j → M i k n d = true → symK x K g.rules[n].r[d] k j = true → M i j n (d + 1) = true
  all : M i j n g.rules[n].r.length = true → K i j g.rules[n].l.toNat = true
def ClosedC (g : Gram) (x : List Int) (M : Nat → Nat → Nat → Nat → Bool) (K : Nat → Nat → Nat → Bool) (i j : Nat) : Prop := ∀ n (h : n < g.rules.length), ClosedN g x M K i j n h

theorem symK_sound {g : Gram} {x : List Int} {M : Nat → Nat → Nat → Nat → Bool} {K : Nat → Nat → Nat → Bool} (hs : SoundC g x M K) {y : Sym} (hy : 0 ≤ y.n) {i j : Nat} (h : symK x K y i j = true) : Drv g x [y] i j := by
  obtain ⟨t, n⟩ := y
  unfold symK at h
  cases t
  · simp only [Bool.false_eq_true, if_false] at h
    have := hs.is _ _ _ h
    rwa [show ((n.toNat : Nat) : Int) = n from Int.toNat_of_nonneg hy] at this
  · simp only [if_true, decide_eq_true_eq] at h
    obtain ⟨rfl, h⟩ := h
    exact .term h (.nil _ (by have := (List.getElem?_eq_some_iff.1 h).1; omega))

section
variable {g : Gram} {x : List Int} {M : Nat → Nat → Nat → Nat → Bool} {K : Nat → Nat → Nat → Bool}

theorem cyk_seq (hc : ∀ i j, i ≤ j → j ≤ x.length → ClosedC g x M K i j) {l : List Sym} {a j : Nat} (h : Drv g x l a j) :
    ∀ (n : Nat) (hn : n < g.rules.length) (d i : Nat) (post : List Sym), g.rules[n].r.drop d = l ++ post → d ≤ g.rules[n].r.length → i ≤ a → M i a n d = true → M i j n (d + l.length) = true := by
  induction h with
  | nil => exact fun n hn d i post _ _ _ h => h
  | @term t l a j ht hr ih =>
    intro n hn d i post hp hd hi h
    have hle := drv_le hr
    have hdl : d < g.rules[n].r.length := by
      have := congrArg List.length hp
      simp at this; omega
    have e : g.rules[n].r[d] = ⟨true, t⟩ := by
      have h1 : (g.rules[n].r.drop d)[0]? = some (⟨true, t⟩ : Sym) := by rw [hp]; rfl
      rw [List.getElem?_drop, Nat.add_zero, List.getElem?_eq_getElem hdl] at h1
      exact Option.some.inj h1
    have h2 : M i (a + 1) n (d + 1) = true := (hc i (a + 1) (by omega) (by omega) n hn).next d hdl a hi (by omega) h (by rw [e]; simp [symK, ht])
    have h3 := ih n hn (d + 1) i post (by rw [← List.drop_drop, hp]; rfl) (by omega) (by omega) h2
    rw [List.length_cons]
    rwa [show d + (l.length + 1) = d + 1 + l.length by omega]
  | @non m l r a k j hr hm hd1 hs ih1 ih2 =>
    intro n hn d i post hp hd hi h
    have hle := drv_le hd1
    have hle2 := drv_le hs
    have hdl : d < g.rules[n].r.length := by
      have := congrArg List.length hp
      simp at this; omega
    have e : g.rules[n].r[d] = ⟨false, m⟩ := by
      have h1 : (g.rules[n].r.drop d)[0]? = some (⟨false, m⟩ : Sym) := by rw [hp]; rfl
      rw [List.getElem?_drop, Nat.add_zero, List.getElem?_eq_getElem hdl] at h1
      exact Option.some.inj h1
    obtain ⟨q, hq, rfl⟩ := List.getElem_of_mem hr
    have h4 := ih1 q hq 0 a [] (by simp) (by omega) (Nat.le_refl _) ((hc a a (Nat.le_refl _) (by omega) q hq).zero rfl)
    rw [Nat.zero_add] at h4
    have h5 := (hc a k (by omega) (by omega) q hq).all h4
    have h2 : M i k n (d + 1) = true := (hc i k (by omega) (by omega) n hn).next d hdl a hi (by omega) h (by rw [e]; simp only [symK, Bool.false_eq_true, if_false]; rw [← hm]; exact h5)
    have h3 := ih2 n hn (d + 1) i post (by rw [← List.drop_drop, hp]; rfl) (by omega) (by omega) h2
    rw [List.length_cons]
    rwa [show d + (l.length + 1) = d + 1 + l.length by omega]

theorem cyk_iff (hs : SoundC g x M K) (hc : ∀ i j, i ≤ j → j ≤ x.length → ClosedC g x M K i j) (n i j : Nat) : K i j n = true ↔ Drv g x [⟨false, n⟩] i j := by
  refine ⟨hs.is i j n, fun h => ?_⟩
  generalize hl : [(⟨false, (n : Int)⟩ : Sym)] = l at h
  cases h with
  | nil => cases hl
  | term => injection hl with h1 h2; injection h1 with h1; cases h1
  | @non m l r i k j hr hm hd1 hs2 =>
    injection hl with h1 h2
    injection h1 with _ h1
    subst h1
    subst h2
    have e : k = j := by cases hs2; rfl
    subst e
    obtain ⟨q, hq, rfl⟩ := List.getElem_of_mem hr
    have hle := drv_le hd1
    have h4 := cyk_seq hc hd1 q hq 0 i [] (by simp) (by omega) (Nat.le_refl _) ((hc i i (Nat.le_refl _) (by omega) q hq).zero rfl)
    rw [Nat.zero_add] at h4
    have h5 := (hc i k (by omega) (by omega) q hq).all h4
    rw [hm] at h5
    exact h5
end

/-! ### one bit is set -/
def setM (M : Nat → Nat → Nat → Nat → Bool) (i j n d : Nat) : Nat → Nat → Nat → Nat → Bool := fun a b c e => if a = i ∧ b = j ∧ c = n ∧ e = d then true else M a b c e
def setK (K : Nat → Nat → Nat → Bool) (i j n : Nat) : Nat → Nat → Nat → Bool := fun a b c => if a = i ∧ b = j ∧ c = n then true else K a b c
/-- how many bits of a part are not set -/
def roomC (g : Gram) (M : Nat → Nat → Nat → Nat → Bool) (K : Nat → Nat → Nat → Bool) (i j : Nat) : Nat :=
  ((List.range g.rules.length).map fun n => ((List.range 5).map fun d => if M i j n d then 0 else 1).sum).sum + ((List.range 10).map fun n => if K i j n then 0 else 1).sum

theorem sum_map_lt {α : Type} {f h : α → Nat} : ∀ {l : List α} {a : α}, a ∈ l → (∀ b ∈ l, f b ≤ h b) → f a < h a → (l.map f).sum < (l.map h).sum
  | b :: l, a, ha, hle, hlt => by
    simp only [List.map_cons, List.sum_cons]
    have hrest : (l.map f).sum ≤ (l.map h).sum := by
      have : ∀ m : List α, (∀ b ∈ m, f b ≤ h b) → (m.map f).sum ≤ (m.map h).sum := by
        intro m
        induction m with
        | nil => simp
        | cons c m ih => intro hm; simp only [List.map_cons, List.sum_cons]; have h1 := hm c (by simp); have h2 := ih (fun b hb => hm b (by simp [hb])); omega
      exact this l fun b hb => hle b (by simp [hb])
    rcases List.mem_cons.1 ha with rfl | ha
    · omega
    · have h1 := hle b (by simp)
      have h2 := sum_map_lt ha (fun b hb => hle b (by simp [hb])) hlt
      omega
theorem sum_map_le {α : Type} {f h : α → Nat} : ∀ {l : List α}, (∀ b ∈ l, f b ≤ h b) → (l.map f).sum ≤ (l.map h).sum
  | [], _ => by simp
  | c :: m, hm => by
    simp only [List.map_cons, List.sum_cons]
    have h1 := hm c (List.mem_cons_self ..)
    have h2 : (m.map f).sum ≤ (m.map h).sum := sum_map_le fun b hb => hm b (List.mem_cons_of_mem _ hb)
    omega

theorem room_setM {g : Gram} {M : Nat → Nat → Nat → Nat → Bool} {K : Nat → Nat → Nat → Bool} {i j n d : Nat} (hn : n < g.rules.length) (hd : d < 5) (h : M i j n d = false) : roomC g (setM M i j n d) K i j < roomC g M K i j := by
  unfold roomC
  refine Nat.add_lt_add_right (sum_map_lt (a := n) (by simpa using hn) (fun b _ => sum_map_le fun e _ => ?_) (sum_map_lt (a := d) (by simpa using hd) (fun e _ => ?_) ?_)) _
  · unfold setM; split <;> split <;> first | omega | simp_all
  · unfold setM; split <;> split <;> first | omega | simp_all
  · simp [setM, h]
theorem room_setK {g : Gram} {M : Nat → Nat → Nat → Nat → Bool} {K : Nat → Nat → Nat → Bool} {i j n : Nat} (hn : n < 10) (h : K i j n = false) : roomC g M (setK K i j n) i j < roomC g M K i j := by
  unfold roomC
  refine Nat.add_lt_add_left (sum_map_lt (a := n) (by simpa using hn) (fun b _ => ?_) ?_) _
  · unfold setK; split <;> split <;> first | omega | simp_all
  · simp [setK, h]

section
variable {g : Gram} {x : List Int} {M : Nat → Nat → Nat → Nat → Bool} {K : Nat → Nat → Nat → Bool} {i j n d : Nat}
theorem SoundC.setM (hs : SoundC g x M K) (h : ∀ h : n < g.rules.length, d ≤ g.rules[n].r.length → Drv g x (g.rules[n].r.take d) i j) : SoundC g x (setM M i j n d) K := by
  refine ⟨fun a b c hc e he hm => ?_, hs.is⟩
  unfold Go.Proofs.Ytcndbohiiodndaa.setM at hm
  split at hm
  · rename_i hh
    obtain ⟨rfl, rfl, rfl, rfl⟩ := hh
    exact h hc he
  · exact hs.has a b c hc e he hm
theorem SoundC.setK (hs : SoundC g x M K) (h : Drv g x [⟨false, n⟩] i j) : SoundC g x M (setK K i j n) := by
  refine ⟨hs.has, fun a b c hk => ?_⟩
  unfold Go.Proofs.Ytcndbohiiodndaa.setK at hk
  split at hk
  · rename_i hh
    obtain ⟨rfl, rfl, rfl⟩ := hh
    exact h
  · exact hs.is a b c hk

/-- a step's result: something is new, or nothing has turned and the part is closed as far as was looked -/
def PassC (g : Gram) (m : Value) (M : Nat → Nat → Nat → Nat → Bool) (K : Nat → Nat → Nat → Bool) (M' : Nat → Nat → Nat → Nat → Bool) (K' : Nat → Nat → Nat → Bool) (i j : Nat) (P : Prop) : Prop :=
  (m = .bool true ∧ roomC g M' K' i j < roomC g M K i j) ∨ (m = .bool false ∧ M' = M ∧ K' = K ∧ P)

/-- outside the part nothing has turned -/
def SameC (M : Nat → Nat → Nat → Nat → Bool) (K : Nat → Nat → Nat → Bool) (M' : Nat → Nat → Nat → Nat → Bool) (K' : Nat → Nat → Nat → Bool) (i j : Nat) : Prop :=
  (∀ a b n d, ¬ (a = i ∧ b = j) → M' a b n d = M a b n d) ∧ (∀ a b n, ¬ (a = i ∧ b = j) → K' a b n = K a b n)
theorem SameC.refl (M : Nat → Nat → Nat → Nat → Bool) (K : Nat → Nat → Nat → Bool) (i j : Nat) : SameC M K M K i j := ⟨fun _ _ _ _ _ => rfl, fun _ _ _ _ => rfl⟩
theorem SameC.setM {M' : Nat → Nat → Nat → Nat → Bool} {K' : Nat → Nat → Nat → Bool} (h : SameC M K M' K' i j) : SameC M K (setM M' i j n d) K' i j := by
  refine ⟨fun a b c e hn => ?_, h.2⟩
  unfold Go.Proofs.Ytcndbohiiodndaa.setM
  rw [if_neg fun hh => hn ⟨hh.1, hh.2.1⟩]
  exact h.1 a b c e hn
theorem SameC.setK {M' : Nat → Nat → Nat → Nat → Bool} {K' : Nat → Nat → Nat → Bool} (h : SameC M K M' K' i j) : SameC M K M' (setK K' i j n) i j := by
  refine ⟨h.1, fun a b c hn => ?_⟩
  unfold Go.Proofs.Ytcndbohiiodndaa.setK
  rw [if_neg fun hh => hn ⟨hh.1, hh.2.1⟩]
  exact h.2 a b c hn
theorem SameC.trans {M' M2 : Nat → Nat → Nat → Nat → Bool} {K' K2 : Nat → Nat → Nat → Bool} (h : SameC M K M' K' i j) (h2 : SameC M' K' M2 K2 i j) : SameC M K M2 K2 i j :=
  ⟨fun a b c e hn => (h2.1 a b c e hn).trans (h.1 a b c e hn), fun a b c hn => (h2.2 a b c hn).trans (h.2 a b c hn)⟩

theorem symK_same {M' : Nat → Nat → Nat → Nat → Bool} {K' : Nat → Nat → Nat → Bool} (h : SameC M K M' K' i j) {a b : Nat} (hab : ¬ (a = i ∧ b = j)) (y : Sym) : symK x K' y a b = symK x K y a b := by
  unfold symK
  split
  · rfl
  · exact h.2 a b _ hab

/-- what is closed stays closed while other parts of at least its size are filled -/
theorem ClosedC.same {M' : Nat → Nat → Nat → Nat → Bool} {K' : Nat → Nat → Nat → Bool} {a b : Nat} (hc : ClosedC g x M K a b) (h : SameC M K M' K' i j) (hab : ¬ (a = i ∧ b = j)) (hsz : b - a ≤ j - i) (hle : a ≤ b) (hij : i ≤ j) : ClosedC g x M' K' a b := by
  intro n hn
  obtain ⟨h1, h2, h3⟩ := hc n hn
  refine ⟨fun e => ?_, fun d hd k hk1 hk2 hm hy => ?_, fun hm => ?_⟩
  · rw [h.1 a b n 0 hab]; exact h1 e
  · rw [h.1 a b n (d + 1) hab]
    refine h2 d hd k hk1 hk2 ?_ ?_
    · rwa [h.1 a k n d (by omega)] at hm
    · rwa [symK_same h (by omega)] at hy
  · rw [h.2 a b _ hab]
    rw [h.1 a b n _ hab] at hm
    exact h3 hm
end
end Go.Proofs.Ytcndbohiiodndaa
