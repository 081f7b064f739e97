import Derived.Test.YtdbkbkopcnkgcaaMeanA
import Derived.Test.YtdbkbkopcnkgcaaWorld
open Go Go.RowKit
namespace Go.Proofs.Ytdbkbkopcnkgcaa

/-! ### the plain side: what the ends mean -/

/-- the symbols derive the part of the word from i to j -/
inductive Drv (g : Gram) (x : List Int) : List Sym → Nat → Nat → Prop
  | nil (i : Nat) (h : i ≤ x.length) : Drv g x [] i i
  | term {t : Int} {l : List Sym} {i j : Nat} (h : x[i]? = some t) (r : Drv g x l (i + 1) j) : Drv g x (⟨true, t⟩ :: l) i j
  | non {n : Int} {l : List Sym} {r : Rule} {i k j : Nat} (hr : r ∈ g.rules) (hn : r.l = n) (h : Drv g x r.r i k) (s : Drv g x l k j) : Drv g x (⟨false, n⟩ :: l) i j

def entry (M : List (List Nat)) (n : Int) (i : Nat) : Nat := (M.getD n.toNat []).getD i 0
def seqEnds (x : List Int) (M : List (List Nat)) (l : List Sym) (f : Nat) : Nat := l.foldl (fun f y => aftTo x M y f (x.length + 1)) f

structure MShape (g : Gram) (x : List Int) (M : List (List Nat)) : Prop where
  len : (M.length : Int) = g.nons
  row : ∀ r ∈ M, r.length = x.length + 1
  small : ∀ r ∈ M, ∀ v ∈ r, v < 2 ^ 32
def Sound (g : Gram) (x : List Int) (M : List (List Nat)) : Prop := ∀ n i j, 0 ≤ n → (entry M n i).testBit j = true → Drv g x [⟨false, n⟩] i j
def ClosedR (x : List Int) (M : List (List Nat)) (r : Rule) (i : Nat) : Prop := ∀ j, (seqEnds x M r.r (2 ^ i)).testBit j = true → (entry M r.l i).testBit j = true
def Closed (g : Gram) (x : List Int) (M : List (List Nat)) : Prop := ∀ r ∈ g.rules, ∀ i, i ≤ x.length → ClosedR x M r i

theorem aftTo_bit (x : List Int) (M : List (List Nat)) (y : Sym) (f j : Nat) : ∀ k, (aftTo x M y f k).testBit j = true ↔ ∃ i, i < k ∧ f.testBit i = true ∧ (aft1 x M y i).testBit j = true
  | 0 => by simp [aftTo]
  | k + 1 => by
    unfold aftTo
    by_cases h : f.testBit k = true
    · rw [if_pos h, Nat.testBit_or, Bool.or_eq_true, aftTo_bit x M y f j k]
      constructor
      · rintro (⟨i, hi, h1, h2⟩ | h2)
        · exact ⟨i, by omega, h1, h2⟩
        · exact ⟨k, by omega, h, h2⟩
      · rintro ⟨i, hi, h1, h2⟩
        by_cases e : i = k
        · subst e; exact .inr h2
        · exact .inl ⟨i, by omega, h1, h2⟩
    · rw [if_neg h, aftTo_bit x M y f j k]
      constructor
      · rintro ⟨i, hi, h1, h2⟩; exact ⟨i, by omega, h1, h2⟩
      · rintro ⟨i, hi, h1, h2⟩
        by_cases e : i = k
        · subst e; exact absurd h1 h
        · exact ⟨i, by omega, h1, h2⟩

theorem aft1_term (x : List Int) (M : List (List Nat)) (t : Int) (i j : Nat) : (aft1 x M ⟨true, t⟩ i).testBit j = true ↔ x[i]? = some t ∧ j = i + 1 := by
  unfold aft1
  simp only [if_true]
  split
  · rename_i h
    rw [Nat.testBit_two_pow]
    simp [h, eq_comm]
  · rename_i h
    simp [h]
theorem aft1_non (x : List Int) (M : List (List Nat)) (n : Int) (i : Nat) : aft1 x M ⟨false, n⟩ i = entry M n i := by simp [aft1, entry]

theorem drv_app {g : Gram} {x : List Int} {l m : List Sym} {i k j : Nat} (h : Drv g x l i k) (h2 : Drv g x m k j) : Drv g x (l ++ m) i j := by
  induction h with
  | nil => exact h2
  | term h _ ih => exact .term h (ih h2)
  | non hr hn h _ _ ih => exact .non hr hn h (ih h2)

theorem drv_le {g : Gram} {x : List Int} {l : List Sym} {i j : Nat} (h : Drv g x l i j) : i ≤ j ∧ j ≤ x.length := by
  induction h with
  | nil _ h => exact ⟨Nat.le_refl _, h⟩
  | term h _ ih => exact ⟨by omega, ih.2⟩
  | non _ _ _ _ ih1 ih2 => exact ⟨by omega, ih2.2⟩

theorem one_drv {g : Gram} {x : List Int} {M : List (List Nat)} (hs : Sound g x M) {y : Sym} (hy : 0 ≤ y.n) {i j : Nat} (h : (aft1 x M y i).testBit j = true) : Drv g x [y] i j := by
  obtain ⟨t, n⟩ := y
  cases t
  · rw [aft1_non] at h
    exact hs n i j hy h
  · obtain ⟨h1, rfl⟩ := (aft1_term x M n i j).1 h
    exact .term h1 (.nil _ (by have := (List.getElem?_eq_some_iff.1 h1).1; omega))

theorem seq_drv {g : Gram} {x : List Int} {M : List (List Nat)} (hs : Sound g x M) : ∀ (l : List Sym), (∀ y ∈ l, 0 ≤ y.n) → ∀ (f j : Nat), (seqEnds x M l f).testBit j = true → j ≤ x.length → ∃ i, f.testBit i = true ∧ Drv g x l i j
  | [], _, f, j, h, hj => ⟨j, h, .nil _ hj⟩
  | y :: l, hy, f, j, h, hj => by
    obtain ⟨k, hk, hd⟩ := seq_drv hs l (fun z hz => hy z (List.mem_cons_of_mem _ hz)) _ j h hj
    obtain ⟨i, _, hi, h1⟩ := (aftTo_bit x M y f k _).1 hk
    exact ⟨i, hi, drv_app (one_drv hs (hy y (List.mem_cons_self ..)) h1) hd⟩

/-- no end lies behind the word -/
def Short (x : List Int) (M : List (List Nat)) : Prop := ∀ n i j, (entry M n i).testBit j = true → j ≤ x.length
theorem one_short {x : List Int} {M : List (List Nat)} (hs : Short x M) {y : Sym} {i j : Nat} (h : (aft1 x M y i).testBit j = true) : j ≤ x.length := by
  obtain ⟨t, n⟩ := y
  cases t
  · rw [aft1_non] at h
    exact hs n i j h
  · obtain ⟨h1, rfl⟩ := (aft1_term x M n i j).1 h
    have := (List.getElem?_eq_some_iff.1 h1).1; omega
theorem seq_short {x : List Int} {M : List (List Nat)} (hs : Short x M) : ∀ (l : List Sym) (f j : Nat), (∀ i, f.testBit i = true → i ≤ x.length) → (seqEnds x M l f).testBit j = true → j ≤ x.length
  | [], _, j, hf, h => hf j h
  | y :: l, f, j, _, h => seq_short hs l _ j (fun k hk => by
      obtain ⟨i, _, _, h1⟩ := (aftTo_bit x M y f k _).1 hk
      exact one_short hs h1) h

theorem sound_short {g : Gram} {x : List Int} {M : List (List Nat)} (hs : Sound g x M) (hneg : ∀ n i, n < 0 → entry M n i = entry M 0 i) : Short x M := fun n i j h => by
  by_cases hn : 0 ≤ n
  · exact (drv_le (hs n i j hn h)).2
  · rw [hneg n i (by omega)] at h
    exact (drv_le (hs 0 i j (by omega) h)).2
theorem entry_neg (M : List (List Nat)) (n : Int) (i : Nat) (h : n < 0) : entry M n i = entry M 0 i := by
  unfold entry
  rw [show n.toNat = (0 : Int).toNat by omega]

/-- what is derived is found, once nothing is new -/
theorem drv_seq {g : Gram} {x : List Int} {M : List (List Nat)} (hc : Closed g x M) {l : List Sym} {i j : Nat} (h : Drv g x l i j) : ∀ f : Nat, f.testBit i = true → (seqEnds x M l f).testBit j = true := by
  induction h with
  | nil => exact fun f hf => hf
  | @term t l i j h _ ih =>
    intro f hf
    refine ih _ ((aftTo_bit x M _ f _ _).2 ⟨i, ?_, hf, (aft1_term x M t i (i + 1)).2 ⟨h, rfl⟩⟩)
    have := (List.getElem?_eq_some_iff.1 h).1; omega
  | @non n l r i k j hr hn h s ih1 ih2 =>
    intro f hf
    have hle := drv_le h
    refine ih2 _ ((aftTo_bit x M _ f _ _).2 ⟨i, by omega, hf, ?_⟩)
    rw [aft1_non, ← hn]
    refine hc r hr i (by omega) k (ih1 _ ?_)
    simp

theorem ends_iff {g : Gram} {x : List Int} {M : List (List Nat)} (hs : Sound g x M) (hc : Closed g x M) (n : Int) (h0 : 0 ≤ n) (i j : Nat) : (entry M n i).testBit j = true ↔ Drv g x [⟨false, n⟩] i j := by
  refine ⟨hs n i j h0, fun h => ?_⟩
  have h1 := drv_seq hc h (2 ^ i) (by simp)
  simp only [seqEnds, List.foldl_cons, List.foldl_nil] at h1
  obtain ⟨i', _, h2, h3⟩ := (aftTo_bit x M _ _ _ _).1 h1
  rw [Nat.testBit_two_pow] at h2
  have : i = i' := by simpa using h2
  subst this
  rwa [aft1_non] at h3

/-! ### one entry grows -/
def putM (M : List (List Nat)) (n : Int) (i v : Nat) : List (List Nat) := M.set n.toNat ((M.getD n.toNat []).set i v)
def room (M : List (List Nat)) : Nat := (M.map fun r => (r.map fun v => 2 ^ 32 - v).sum).sum

theorem entry_put {M : List (List Nat)} {n : Int} {i v : Nat} (hn : n.toNat < M.length) (hi : i < (M.getD n.toNat []).length) (m : Int) (k : Nat) :
    entry (putM M n i v) m k = if m.toNat = n.toNat ∧ k = i then v else entry M m k := by
  unfold entry putM
  simp only [List.getD_eq_getElem?_getD] at *
  rw [List.getElem?_set]
  by_cases h : n.toNat = m.toNat
  · rw [if_pos h, if_pos hn]
    simp only [Option.getD_some]
    rw [List.getElem?_set, ← h]
    by_cases h2 : i = k
    · subst h2; simp [hi]
    · simp [h2, show ¬ k = i from fun e => h2 e.symm]
  · rw [if_neg h, if_neg (by omega)]

theorem sum_set_lt : ∀ (l : List Nat) (i v : Nat) (h : i < l.length), v < l[i] → (l.set i v).sum < l.sum
  | a :: l, 0, v, _, h => by simp at h ⊢; omega
  | a :: l, i + 1, v, hl, h => by
    simp only [List.set_cons_succ, List.sum_cons]
    have := sum_set_lt l i v (by simpa using hl) (by simpa using h)
    omega

theorem room_put {M : List (List Nat)} {n : Int} {i v : Nat} (hn : n.toNat < M.length) (hi : i < (M.getD n.toNat []).length) (hv : entry M n i < v) (h32 : v < 2 ^ 32) : room (putM M n i v) < room M := by
  unfold room putM
  rw [List.map_set]
  refine sum_set_lt _ _ _ (by simpa using hn) ?_
  simp only [List.getElem_map]
  have e : M.getD n.toNat [] = M[n.toNat] := by simp [List.getD_eq_getElem?_getD, hn]
  unfold entry at hv
  rw [e] at hi hv ⊢
  rw [List.map_set]
  refine sum_set_lt _ _ _ (by simpa using hi) ?_
  simp only [List.getElem_map]
  have e2 : M[n.toNat].getD i 0 = M[n.toNat][i] := by simp [List.getD_eq_getElem?_getD, hi]
  rw [e2] at hv
  omega

theorem MShape.put {g : Gram} {x : List Int} {M : List (List Nat)} (h : MShape g x M) {n : Int} {i v : Nat} (h32 : v < 2 ^ 32) (hn : n.toNat < M.length) : MShape g x (putM M n i v) := by
  have e : M.getD n.toNat [] = M[n.toNat] := by simp [List.getD_eq_getElem?_getD, hn]
  refine ⟨by unfold putM; simpa using h.len, ?_, ?_⟩
  · intro r hr
    unfold putM at hr
    rcases List.mem_or_eq_of_mem_set hr with hr | rfl
    · exact h.row r hr
    · rw [e, List.length_set]; exact h.row _ (by simp)
  · intro r hr u hu
    unfold putM at hr
    rcases List.mem_or_eq_of_mem_set hr with hr | rfl
    · exact h.small r hr u hu
    · rw [e] at hu
      rcases List.mem_or_eq_of_mem_set hu with hu | rfl
      · exact h.small _ (by simp) u hu
      · exact h32

theorem not_bit {v j : Nat} (hv : v < 2 ^ 32) (hj : j < 32) : (4294967295 - v).testBit j = !v.testBit j := by
  have := Nat.testBit_two_pow_sub_succ hv j
  rw [show 4294967295 - v = 2 ^ 32 - (v + 1) by omega, this]
  simp [hj]
theorem andNot_zero {a v : Nat} (ha : a < 2 ^ 32) (hv : v < 2 ^ 32) (h : a &&& (4294967295 - v) = 0) (j : Nat) (hj : a.testBit j = true) : v.testBit j = true := by
  have h32 : j < 32 := by
    rcases Nat.lt_or_ge j 32 with h | h
    · exact h
    · rw [Nat.testBit_lt_two_pow (Nat.lt_of_lt_of_le ha (Nat.pow_le_pow_right (by omega) h))] at hj; cases hj
  have h1 : (a &&& (4294967295 - v)).testBit j = false := by rw [h]; simp
  rw [Nat.testBit_and, hj, not_bit hv h32] at h1
  simpa using h1
theorem andNot_more {a v : Nat} (_ha : a < 2 ^ 32) (hv : v < 2 ^ 32) (h : a &&& (4294967295 - v) ≠ 0) : v < v ||| a := by
  have hle : v ≤ v ||| a := Nat.left_le_or
  rcases Nat.lt_or_ge v (v ||| a) with h2 | h2
  · exact h2
  · have e : v ||| a = v := by omega
    refine absurd ?_ h
    apply Nat.eq_of_testBit_eq
    intro j
    rw [Nat.testBit_and, Nat.zero_testBit]
    by_cases hj : a.testBit j = true
    · have hvj : v.testBit j = true := by rw [← e, Nat.testBit_or, hj]; simp
      rcases Nat.lt_or_ge j 32 with h32 | h32
      · rw [not_bit hv h32, hvj]; simp
      · rw [Nat.testBit_lt_two_pow (Nat.lt_of_lt_of_le (show 4294967295 - v < 2 ^ 32 by omega) (Nat.pow_le_pow_right (by omega) h32))]; simp
    · simp [hj]

theorem seqEnds_lt {x : List Int} {M : List (List Nat)} (hM : ∀ r ∈ M, ∀ v ∈ r, v < 2 ^ 32) (hx : x.length ≤ 12) : ∀ (l : List Sym) (f : Nat), f < 2 ^ 32 → seqEnds x M l f < 2 ^ 32
  | [], _, h => h
  | y :: l, f, _ => seqEnds_lt hM hx l _ (aftTo_lt x M y f hM _ (by omega))
theorem seqEnds_take {x : List Int} {M : List (List Nat)} {l : List Sym} {f d : Nat} (h : d < l.length) : aftTo x M l[d] (seqEnds x M (l.take d) f) (x.length + 1) = seqEnds x M (l.take (d + 1)) f := by
  rw [List.take_succ_eq_append_getElem h]
  unfold seqEnds
  rw [List.foldl_append]
  rfl

theorem entry_lt {g : Gram} {x : List Int} {M : List (List Nat)} (h : MShape g x M) (n : Int) (i : Nat) : entry M n i < 2 ^ 32 := by
  unfold entry
  rw [List.getD_eq_getElem?_getD, List.getD_eq_getElem?_getD]
  cases h1 : M[n.toNat]? with
  | none => simp
  | some r =>
    simp only [Option.getD_some]
    cases h2 : r[i]? with
    | none => simp
    | some v => exact h.small r (List.mem_of_getElem? h1) v (List.mem_of_getElem? h2)

theorem sound_put {g : Gram} {x : List Int} {M : List (List Nat)} (hs : Sound g x M) {r : Rule} (hr : r ∈ g.rules) (h0 : 0 ≤ r.l) (hy : ∀ y ∈ r.r, 0 ≤ y.n) {i : Nat} (hi : i ≤ x.length)
    (hn : r.l.toNat < M.length) (hi2 : i < (M.getD r.l.toNat []).length) : Sound g x (putM M r.l i (entry M r.l i ||| seqEnds x M r.r (2 ^ i))) := by
  intro n k j hn0 h
  rw [entry_put hn hi2] at h
  split at h
  · rename_i hc
    obtain ⟨h1, rfl⟩ := hc
    have hnl : n = r.l := by omega
    subst hnl
    rw [Nat.testBit_or, Bool.or_eq_true] at h
    rcases h with h | h
    · exact hs _ _ _ hn0 h
    · have hsh : j ≤ x.length := seq_short (sound_short hs (entry_neg M)) r.r (2 ^ k) j (fun i' hi' => by
        rw [Nat.testBit_two_pow] at hi'
        have : k = i' := by simpa using hi'
        omega) h
      obtain ⟨i', hi', hd⟩ := seq_drv hs r.r hy _ j h hsh
      rw [Nat.testBit_two_pow] at hi'
      have : k = i' := by simpa using hi'
      subst this
      exact .non hr rfl hd (.nil _ hsh)
  · exact hs n k j hn0 h
end Go.Proofs.Ytdbkbkopcnkgcaa
