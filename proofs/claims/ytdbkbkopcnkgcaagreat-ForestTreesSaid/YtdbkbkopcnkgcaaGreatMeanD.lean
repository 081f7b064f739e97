import Derived.Test.YtdbkbkopcnkgcaaGreatGramC
import Derived.Test.YtdbkbkopcnkgcaaGreatWorld
import Derived.BigRegion
import Derived.Deep.RegionWith
import Derived.StillTailTactics
open Go Go.RowKit
namespace Go.Proofs.YtdbkbkopcnkgcaaGreat

/-- what a symbol that begins at i can end at -/
def aft1 (x : List Int) (M : List (List Nat)) (y : Sym) (i : Nat) : Nat :=
  if y.t then (if x[i]? = some y.n then 2 ^ (i + 1) else 0) else (M.getD y.n.toNat []).getD i 0
def aftTo (x : List Int) (M : List (List Nat)) (y : Sym) (f : Nat) : Nat → Nat
  | 0 => 0
  | k + 1 => if f.testBit k then aftTo x M y f k ||| aft1 x M y k else aftTo x M y f k

/-- the parser's state: grammar, word, ends -/
theorem aft1_lt (x : List Int) (M : List (List Nat)) (y : Sym) (i : Nat) (hi : i ≤ 12) (hM : ∀ r ∈ M, ∀ v ∈ r, v < 2 ^ 32) : aft1 x M y i < 2 ^ 32 := by
  unfold aft1
  split
  · split
    · exact pow_lt13 (by omega)
    · omega
  · rw [List.getD_eq_getElem?_getD, List.getD_eq_getElem?_getD]
    cases h : M[y.n.toNat]? with
    | none => simp
    | some r =>
      simp only [Option.getD_some]
      cases h2 : r[i]? with
      | none => simp
      | some v => exact hM r (List.mem_of_getElem? h) v (List.mem_of_getElem? h2)
theorem aftTo_lt (x : List Int) (M : List (List Nat)) (y : Sym) (f : Nat) (hM : ∀ r ∈ M, ∀ v ∈ r, v < 2 ^ 32) : ∀ k, k ≤ 13 → aftTo x M y f k < 2 ^ 32
  | 0, _ => by simp [aftTo]
  | k + 1, h => by
    unfold aftTo
    split
    · exact or_lt (aftTo_lt x M y f hM k (by omega)) (aft1_lt x M y k (by omega) hM)
    · exact aftTo_lt x M y f hM k (by omega)
theorem aftTo_no {x : List Int} {M : List (List Nat)} {y : Sym} {f k : Nat} (h : f.testBit k = false) : aftTo x M y f (k + 1) = aftTo x M y f k := by rw [aftTo, h]; rfl
theorem aftTo_yes {x : List Int} {M : List (List Nat)} {y : Sym} {f k : Nat} (h : f.testBit k = true) : aftTo x M y f (k + 1) = aftTo x M y f k ||| aft1 x M y k := by rw [aftTo, h]; rfl

structure IsEnds (F : Nat → Prop) (w : World) (be : Nat) (g : Gram) (x : List Int) (M : List (List Nat)) (A : Option Addr) (n c : Nat) (B : Option Addr) (m d : Nat) (C : Option Addr) (p q : Nat) : Prop where
  fb : F be
  c0 : w.cell? ⟨be, 0, none⟩ = some (.int .i64 g.terms)
  c1 : w.cell? ⟨be, 1, none⟩ = some (.int .i64 g.nons)
  c2 : w.cell? ⟨be, 2, none⟩ = some (.int .i64 g.start)
  c3 : w.cell? ⟨be, 3, none⟩ = some (.slice A n c)
  c4 : w.cell? ⟨be, 4, none⟩ = some (.slice B m d)
  c5 : w.cell? ⟨be, 5, none⟩ = some (.slice C p q)
  rules : IsSl Elt.rule F w (.slice A n c) g.rules
  word : IsSl Elt.int F w (.slice B m d) x
  mat : IsSl (Elt.sl Elt.u32) F w (.slice C p q) M

theorem IsSl.rowAt {α : Type} {d : Elt α} {F : Nat → Prop} {w : World} {A : Option Addr} {n c : Nat} {xs : List (List α)} (h : IsSl (Elt.sl d) F w (.slice A n c) xs) (k : Nat) (hk : k < xs.length) :
    ∃ b o, A = some ⟨b, o, none⟩ ∧ F b ∧ b < w.heap.size ∧ ∃ A' c', w.cell? ⟨b, o + k, none⟩ = some (.slice A' xs[k].length c') ∧ IsSl d F w (.slice A' xs[k].length c') xs[k] := by
  obtain ⟨A', c', he, hl, h⟩ := h
  injection he with h1 h2 h3
  subst h1
  obtain ⟨b, o, rfl, hb, hlt, he⟩ := h k hk
  obtain ⟨_, A2, c2, h2, _, h3⟩ := he
  simp only [Elt.sl, Nat.mul_one] at h2
  exact ⟨b, o, rfl, hb, hlt, A2, c2, h2, h3⟩

set_option maxRecDepth 100000 in
set_option maxHeartbeats 400000 in
theorem after_any (F : Nat → Prop) (be : Nat) (g : Gram) (x : List Int) (M : List (List Nat)) (A : Option Addr) (n c : Nat) (B : Option Addr) (m d : Nat) (C : Option Addr) (p q : Nat) (y : Sym) (f : Nat) (w : World)
    (he : IsEnds F w be g x M A n c B m d C p q) (hl : x.length ≤ 12) (hy : 0 ≤ y.n) (hyn : y.t = false → y.n < M.length) (hM : ∀ r ∈ M, r.length = x.length + 1) (hM2 : ∀ r ∈ M, ∀ v ∈ r, v < 2 ^ 32) (hf : f < 2 ^ 32) :
    Calls Tryz.prog 41 #[.pointer (some ⟨be, 0, none⟩), symV y, .int .u32 f] w fun e w' => e = .returned (.int .u32 (aftTo x M y f (x.length + 1))) ∧ Below w.heap.size w w' := by
  obtain ⟨rfl, hn⟩ := he.word.len
  have hc4 := he.c4
  have hc5 := he.c5
  have hbe := cell_lt hc4
  unfold symV
  go_enter Tryz.func41, Tryz.ntmps41
  go_wp2
  go_loopw [7, 8] (fun o i wr => ∃ k : Nat, k ≤ x.length + 1 ∧ i = .int .i64 k ∧ o = .int .u32 (aftTo x M y f k) ∧ Below (w.heap.size + 1) (w.alloc (.cells #[.bool y.t, .int .i64 y.n] 70)) wr) (fun _ i _ => x.length + 1 - (intOf i).toNat)
  case atStart => exact ⟨0, by omega, rfl, rfl, Below.refl _ _⟩
  case round =>
    obtain ⟨k, hk, rfl, rfl, hb⟩ := hrel
    have hb0 : Below w.heap.size w wr := ((Below.refl _ _).alloc (Nat.le_refl _) _).trans (hb.mono (by omega))
    have hg0 := box_cell hb (j := 0) rfl
    have hg1 := box_cell hb (j := 1) rfl
    have hc4r := (hb0.cell (p := ⟨be, 4, none⟩) hbe).trans hc4
    have hc5r := (hb0.cell (p := ⟨be, 5, none⟩) hbe).trans hc5
    by_cases hlt : k ≤ x.length
    · have hto := aftTo_lt x M y f hM2 k (by omega)
      cases hbit : f.testBit k
      · have hbt := bit_testF f k hf hbit
        have hst := aftTo_no (x := x) (M := M) (y := y) hbit
        have HS := Lib.hid hst
        clear hst hbit
        go_wp2
        go_roundw
        case rel => exact ⟨k + 1, by omega, by go_num, by rw [HS.out], hb⟩
        case measure => simp [intOf]; omega
      · have hbt := bit_testT f k hf hbit
        have hst := aftTo_yes (x := x) (M := M) (y := y) hbit
        have hto2 := aft1_lt x M y k (by omega) hM2
        have hor := u32_or_nat (aftTo x M y f k) (aft1 x M y k) hto hto2
        rw [← hst] at hor
        have HO := Lib.hid hor
        have HS := Lib.hid hst
        clear hst hbit hor
        obtain ⟨yt, yn⟩ := y
        simp only at hy
        cases yt
        · have hyn' := hyn rfl
          simp only at hyn'
          obtain ⟨b, o, rfl, hF, hl2, A2, c2, hc6, hro⟩ := (he.mat.below hb0).rowAt yn.toNat (by omega)
          have hrl := hM M[yn.toNat] (by simp)
          obtain ⟨b3, o3, rfl, hF3, hl3, hc7⟩ := hro.oneAt k (by omega)
          have ha : aft1 x M ⟨false, yn⟩ k = M[yn.toNat][k] := by simp [aft1, List.getD_eq_getElem?_getD, List.getElem?_eq_getElem (show yn.toNat < M.length by omega), List.getElem?_eq_getElem (show k < M[yn.toNat].length by omega)]
          have HA := Lib.hid ha
          clear ha
          obtain ⟨rfl, hp⟩ := he.mat.len
          go_wp2_with fail
          go_quiet (fail)
          go_wp2
          go_roundw
          case rel => exact ⟨k + 1, by omega, by go_num, by rw [← HA.out, HO.out], below_drewN hb _⟩
          case measure => simp [intOf]; omega
        · by_cases hk2 : k < x.length
          · obtain ⟨b3, o3, rfl, hF3, hl3, hc7⟩ := (he.word.below hb0).oneAt k hk2
            by_cases hxe : x[k] = yn
            · have hxe' : (x[k] == yn) = true := by simp [hxe]
              have ha : aft1 x M ⟨true, yn⟩ k = 2 ^ (k + 1) := by simp [aft1, List.getElem?_eq_getElem hk2, hxe]
              have HA := Lib.hid ha
              clear ha hxe
              go_wp2_with fail
              go_quiet (fail)
              go_wp2
              go_roundw
              case rel => exact ⟨k + 1, by omega, by go_num, by rw [pow_mod13 (by omega), ← HA.out, HO.out], below_drewN hb _⟩
              case measure => simp [intOf]; omega
            · have hxe' : (x[k] == yn) = false := by simp [hxe]
              have ha : aft1 x M ⟨true, yn⟩ k = 0 := by simp [aft1, List.getElem?_eq_getElem hk2, hxe]
              have HA := Lib.hid ha
              clear ha hxe
              go_wp2_with fail
              go_quiet (fail)
              go_wp2
              go_roundw
              case rel => exact ⟨k + 1, by omega, by go_num, by rw [HS.out, HA.out, Nat.or_zero], below_drewN hb _⟩
              case measure => simp [intOf]; omega
          · have ha : aft1 x M ⟨true, yn⟩ k = 0 := by simp [aft1, List.getElem?_eq_none (show x.length ≤ k by omega)]
            have HA := Lib.hid ha
            clear ha
            have hd : decide (k < x.length) = false := by simpa using hk2
            go_wp2_with fail
            go_quiet (fail)
            go_wp2
            go_roundw
            case rel => exact ⟨k + 1, by omega, by go_num, by rw [HS.out, HA.out, Nat.or_zero], below_drewN hb _⟩
            case measure => simp [intOf]; omega
    · go_wp2
      go_ret
      exact ⟨ret_int (by rw [show k = x.length + 1 from by omega]), hb0⟩
end Go.Proofs.YtdbkbkopcnkgcaaGreat

open Go Go.RowKit
namespace Go.Proofs.YtdbkbkopcnkgcaaGreat

/-! ### the plain side: what the ends mean -/

/-- the symbols derive the part of the word from i to j -/
inductive Drv (g : Gram) (x : List Int) : List Sym → Nat → Nat → Prop
  | nil (i : Nat) (h : i ≤ x.length) : Drv g x [] i i
  | term {t : Int} {l : List Sym} {i j : Nat} (h : x[i]? = some t) (r : Drv g x l (i + 1) j) : Drv g x (⟨true, t⟩ :: l) i j
  | non {n : Int} {l : List Sym} {r : Rule} {i k j : Nat} (hr : r ∈ g.rules) (hn : r.l = n) (h : Drv g x r.r i k) (s : Drv g x l k j) : Drv g x (⟨false, n⟩ :: l) i j

def entry (M : List (List Nat)) (n : Int) (i : Nat) : Nat := (M.getD n.toNat []).getD i 0
def seqEnds (x : List Int) (M : List (List Nat)) (l : List Sym) (f : Nat) : Nat := l.foldl (fun f y => aftTo x M y f (x.length + 1)) f

structure MShape (g : Gram) (x : List Int) (M : List (List Nat)) : Prop where
  len : (M.length : Int) = g.nons
  row : ∀ r ∈ M, r.length = x.length + 1
  small : ∀ r ∈ M, ∀ v ∈ r, v < 2 ^ 32
def Sound (g : Gram) (x : List Int) (M : List (List Nat)) : Prop := ∀ n i j, 0 ≤ n → (entry M n i).testBit j = true → Drv g x [⟨false, n⟩] i j
def ClosedR (x : List Int) (M : List (List Nat)) (r : Rule) (i : Nat) : Prop := ∀ j, (seqEnds x M r.r (2 ^ i)).testBit j = true → (entry M r.l i).testBit j = true
def Closed (g : Gram) (x : List Int) (M : List (List Nat)) : Prop := ∀ r ∈ g.rules, ∀ i, i ≤ x.length → ClosedR x M r i

theorem aftTo_bit (x : List Int) (M : List (List Nat)) (y : Sym) (f j : Nat) : ∀ k, (aftTo x M y f k).testBit j = true ↔ ∃ i, i < k ∧ f.testBit i = true ∧ (aft1 x M y i).testBit j = true
  | 0 => by simp [aftTo]
  | k + 1 => by
    unfold aftTo
    by_cases h : f.testBit k = true
    · rw [if_pos h, Nat.testBit_or, Bool.or_eq_true, aftTo_bit x M y f j k]
      constructor
      · rintro (⟨i, hi, h1, h2⟩ | h2)
        · exact ⟨i, by omega, h1, h2⟩
        · exact ⟨k, by omega, h, h2⟩
      · rintro ⟨i, hi, h1, h2⟩
        by_cases e : i = k
        · subst e; exact .inr h2
        · exact .inl ⟨i, by omega, h1, h2⟩
    · rw [if_neg h, aftTo_bit x M y f j k]
      constructor
      · rintro ⟨i, hi, h1, h2⟩; exact ⟨i, by omega, h1, h2⟩
      · rintro ⟨i, hi, h1, h2⟩
        by_cases e : i = k
        · subst e; exact absurd h1 h
        · exact ⟨i, by omega, h1, h2⟩

theorem aft1_term (x : List Int) (M : List (List Nat)) (t : Int) (i j : Nat) : (aft1 x M ⟨true, t⟩ i).testBit j = true ↔ x[i]? = some t ∧ j = i + 1 := by
  unfold aft1
  simp only [if_true]
  split
  · rename_i h
    rw [Nat.testBit_two_pow]
    simp [h, eq_comm]
  · rename_i h
    simp [h]
theorem aft1_non (x : List Int) (M : List (List Nat)) (n : Int) (i : Nat) : aft1 x M ⟨false, n⟩ i = entry M n i := by simp [aft1, entry]

theorem drv_app {g : Gram} {x : List Int} {l m : List Sym} {i k j : Nat} (h : Drv g x l i k) (h2 : Drv g x m k j) : Drv g x (l ++ m) i j := by
  induction h with
  | nil => exact h2
  | term h _ ih => exact .term h (ih h2)
  | non hr hn h _ _ ih => exact .non hr hn h (ih h2)

theorem drv_le {g : Gram} {x : List Int} {l : List Sym} {i j : Nat} (h : Drv g x l i j) : i ≤ j ∧ j ≤ x.length := by
  induction h with
  | nil _ h => exact ⟨Nat.le_refl _, h⟩
  | term h _ ih => exact ⟨by omega, ih.2⟩
  | non _ _ _ _ ih1 ih2 => exact ⟨by omega, ih2.2⟩

theorem one_drv {g : Gram} {x : List Int} {M : List (List Nat)} (hs : Sound g x M) {y : Sym} (hy : 0 ≤ y.n) {i j : Nat} (h : (aft1 x M y i).testBit j = true) : Drv g x [y] i j := by
  obtain ⟨t, n⟩ := y
  cases t
  · rw [aft1_non] at h
    exact hs n i j hy h
  · obtain ⟨h1, rfl⟩ := (aft1_term x M n i j).1 h
    exact .term h1 (.nil _ (by have := (List.getElem?_eq_some_iff.1 h1).1; omega))

theorem seq_drv {g : Gram} {x : List Int} {M : List (List Nat)} (hs : Sound g x M) : ∀ (l : List Sym), (∀ y ∈ l, 0 ≤ y.n) → ∀ (f j : Nat), (seqEnds x M l f).testBit j = true → j ≤ x.length → ∃ i, f.testBit i = true ∧ Drv g x l i j
  | [], _, f, j, h, hj => ⟨j, h, .nil _ hj⟩
  | y :: l, hy, f, j, h, hj => by
    obtain ⟨k, hk, hd⟩ := seq_drv hs l (fun z hz => hy z (List.mem_cons_of_mem _ hz)) _ j h hj
    obtain ⟨i, _, hi, h1⟩ := (aftTo_bit x M y f k _).1 hk
    exact ⟨i, hi, drv_app (one_drv hs (hy y (List.mem_cons_self ..)) h1) hd⟩

/-- no end lies behind the word -/
def Short (x : List Int) (M : List (List Nat)) : Prop := ∀ n i j, (entry M n i).testBit j = true → j ≤ x.length
theorem one_short {x : List Int} {M : List (List Nat)} (hs : Short x M) {y : Sym} {i j : Nat} (h : (aft1 x M y i).testBit j = true) : j ≤ x.length := by
  obtain ⟨t, n⟩ := y
  cases t
  · rw [aft1_non] at h
    exact hs n i j h
  · obtain ⟨h1, rfl⟩ := (aft1_term x M n i j).1 h
    have := (List.getElem?_eq_some_iff.1 h1).1; omega
theorem seq_short {x : List Int} {M : List (List Nat)} (hs : Short x M) : ∀ (l : List Sym) (f j : Nat), (∀ i, f.testBit i = true → i ≤ x.length) → (seqEnds x M l f).testBit j = true → j ≤ x.length
  | [], _, j, hf, h => hf j h
  | y :: l, f, j, _, h => seq_short hs l _ j (fun k hk => by
      obtain ⟨i, _, _, h1⟩ := (aftTo_bit x M y f k _).1 hk
      exact one_short hs h1) h

theorem sound_short {g : Gram} {x : List Int} {M : List (List Nat)} (hs : Sound g x M) (hneg : ∀ n i, n < 0 → entry M n i = entry M 0 i) : Short x M := fun n i j h => by
  by_cases hn : 0 ≤ n
  · exact (drv_le (hs n i j hn h)).2
  · rw [hneg n i (by omega)] at h
    exact (drv_le (hs 0 i j (by omega) h)).2
theorem entry_neg (M : List (List Nat)) (n : Int) (i : Nat) (h : n < 0) : entry M n i = entry M 0 i := by
  unfold entry
  rw [show n.toNat = (0 : Int).toNat by omega]

/-- what is derived is found, once nothing is new -/
theorem drv_seq {g : Gram} {x : List Int} {M : List (List Nat)} (hc : Closed g x M) {l : List Sym} {i j : Nat} (h : Drv g x l i j) : ∀ f : Nat, f.testBit i = true → (seqEnds x M l f).testBit j = true := by
  induction h with
  | nil => exact fun f hf => hf
  | @term t l i j h _ ih =>
    intro f hf
    refine ih _ ((aftTo_bit x M _ f _ _).2 ⟨i, ?_, hf, (aft1_term x M t i (i + 1)).2 ⟨h, rfl⟩⟩)
    have := (List.getElem?_eq_some_iff.1 h).1; omega
  | @non n l r i k j hr hn h s ih1 ih2 =>
    intro f hf
    have hle := drv_le h
    refine ih2 _ ((aftTo_bit x M _ f _ _).2 ⟨i, by omega, hf, ?_⟩)
    rw [aft1_non, ← hn]
    refine hc r hr i (by omega) k (ih1 _ ?_)
    simp

theorem ends_iff {g : Gram} {x : List Int} {M : List (List Nat)} (hs : Sound g x M) (hc : Closed g x M) (n : Int) (h0 : 0 ≤ n) (i j : Nat) : (entry M n i).testBit j = true ↔ Drv g x [⟨false, n⟩] i j := by
  refine ⟨hs n i j h0, fun h => ?_⟩
  have h1 := drv_seq hc h (2 ^ i) (by simp)
  simp only [seqEnds, List.foldl_cons, List.foldl_nil] at h1
  obtain ⟨i', _, h2, h3⟩ := (aftTo_bit x M _ _ _ _).1 h1
  rw [Nat.testBit_two_pow] at h2
  have : i = i' := by simpa using h2
  subst this
  rwa [aft1_non] at h3

/-! ### one entry grows -/
def putM (M : List (List Nat)) (n : Int) (i v : Nat) : List (List Nat) := M.set n.toNat ((M.getD n.toNat []).set i v)
def room (M : List (List Nat)) : Nat := (M.map fun r => (r.map fun v => 2 ^ 32 - v).sum).sum

theorem entry_put {M : List (List Nat)} {n : Int} {i v : Nat} (hn : n.toNat < M.length) (hi : i < (M.getD n.toNat []).length) (m : Int) (k : Nat) :
    entry (putM M n i v) m k = if m.toNat = n.toNat ∧ k = i then v else entry M m k := by
  unfold entry putM
  simp only [List.getD_eq_getElem?_getD] at *
  rw [List.getElem?_set]
  by_cases h : n.toNat = m.toNat
  · rw [if_pos h, if_pos hn]
    simp only [Option.getD_some]
    rw [List.getElem?_set, ← h]
    by_cases h2 : i = k
    · subst h2; simp [hi]
    · simp [h2, show ¬ k = i from fun e => h2 e.symm]
  · rw [if_neg h, if_neg (by omega)]

theorem sum_set_lt : ∀ (l : List Nat) (i v : Nat) (h : i < l.length), v < l[i] → (l.set i v).sum < l.sum
  | a :: l, 0, v, _, h => by simp at h ⊢; omega
  | a :: l, i + 1, v, hl, h => by
    simp only [List.set_cons_succ, List.sum_cons]
    have := sum_set_lt l i v (by simpa using hl) (by simpa using h)
    omega

theorem room_put {M : List (List Nat)} {n : Int} {i v : Nat} (hn : n.toNat < M.length) (hi : i < (M.getD n.toNat []).length) (hv : entry M n i < v) (h32 : v < 2 ^ 32) : room (putM M n i v) < room M := by
  unfold room putM
  rw [List.map_set]
  refine sum_set_lt _ _ _ (by simpa using hn) ?_
  simp only [List.getElem_map]
  have e : M.getD n.toNat [] = M[n.toNat] := by simp [List.getD_eq_getElem?_getD, hn]
  unfold entry at hv
  rw [e] at hi hv ⊢
  rw [List.map_set]
  refine sum_set_lt _ _ _ (by simpa using hi) ?_
  simp only [List.getElem_map]
  have e2 : M[n.toNat].getD i 0 = M[n.toNat][i] := by simp [List.getD_eq_getElem?_getD, hi]
  rw [e2] at hv
  omega

theorem MShape.put {g : Gram} {x : List Int} {M : List (List Nat)} (h : MShape g x M) {n : Int} {i v : Nat} (h32 : v < 2 ^ 32) (hn : n.toNat < M.length) : MShape g x (putM M n i v) := by
  have e : M.getD n.toNat [] = M[n.toNat] := by simp [List.getD_eq_getElem?_getD, hn]
  refine ⟨by unfold putM; simpa using h.len, ?_, ?_⟩
  · intro r hr
    unfold putM at hr
    rcases List.mem_or_eq_of_mem_set hr with hr | rfl
    · exact h.row r hr
    · rw [e, List.length_set]; exact h.row _ (by simp)
  · intro r hr u hu
    unfold putM at hr
    rcases List.mem_or_eq_of_mem_set hr with hr | rfl
    · exact h.small r hr u hu
    · rw [e] at hu
      rcases List.mem_or_eq_of_mem_set hu with hu | rfl
      · exact h.small _ (by simp) u hu
      · exact h32

theorem not_bit {v j : Nat} (hv : v < 2 ^ 32) (hj : j < 32) : (4294967295 - v).testBit j = !v.testBit j := by
  have := Nat.testBit_two_pow_sub_succ hv j
  rw [show 4294967295 - v = 2 ^ 32 - (v + 1) by omega, this]
  simp [hj]
theorem andNot_zero {a v : Nat} (ha : a < 2 ^ 32) (hv : v < 2 ^ 32) (h : a &&& (4294967295 - v) = 0) (j : Nat) (hj : a.testBit j = true) : v.testBit j = true := by
  have h32 : j < 32 := by
    rcases Nat.lt_or_ge j 32 with h | h
    · exact h
    · rw [Nat.testBit_lt_two_pow (Nat.lt_of_lt_of_le ha (Nat.pow_le_pow_right (by omega) h))] at hj; cases hj
  have h1 : (a &&& (4294967295 - v)).testBit j = false := by rw [h]; simp
  rw [Nat.testBit_and, hj, not_bit hv h32] at h1
  simpa using h1
theorem andNot_more {a v : Nat} (_ha : a < 2 ^ 32) (hv : v < 2 ^ 32) (h : a &&& (4294967295 - v) ≠ 0) : v < v ||| a := by
  have hle : v ≤ v ||| a := Nat.left_le_or
  rcases Nat.lt_or_ge v (v ||| a) with h2 | h2
  · exact h2
  · have e : v ||| a = v := by omega
    refine absurd ?_ h
    apply Nat.eq_of_testBit_eq
    intro j
    rw [Nat.testBit_and, Nat.zero_testBit]
    by_cases hj : a.testBit j = true
    · have hvj : v.testBit j = true := by rw [← e, Nat.testBit_or, hj]; simp
      rcases Nat.lt_or_ge j 32 with h32 | h32
      · rw [not_bit hv h32, hvj]; simp
      · rw [Nat.testBit_lt_two_pow (Nat.lt_of_lt_of_le (show 4294967295 - v < 2 ^ 32 by omega) (Nat.pow_le_pow_right (by omega) h32))]; simp
    · simp [hj]

theorem seqEnds_lt {x : List Int} {M : List (List Nat)} (hM : ∀ r ∈ M, ∀ v ∈ r, v < 2 ^ 32) (hx : x.length ≤ 12) : ∀ (l : List Sym) (f : Nat), f < 2 ^ 32 → seqEnds x M l f < 2 ^ 32
  | [], _, h => h
  | y :: l, f, _ => seqEnds_lt hM hx l _ (aftTo_lt x M y f hM _ (by omega))
theorem seqEnds_take {x : List Int} {M : List (List Nat)} {l : List Sym} {f d : Nat} (h : d < l.length) : aftTo x M l[d] (seqEnds x M (l.take d) f) (x.length + 1) = seqEnds x M (l.take (d + 1)) f := by
  rw [List.take_succ_eq_append_getElem h]
  unfold seqEnds
  rw [List.foldl_append]
  rfl

theorem entry_lt {g : Gram} {x : List Int} {M : List (List Nat)} (h : MShape g x M) (n : Int) (i : Nat) : entry M n i < 2 ^ 32 := by
  unfold entry
  rw [List.getD_eq_getElem?_getD, List.getD_eq_getElem?_getD]
  cases h1 : M[n.toNat]? with
  | none => simp
  | some r =>
    simp only [Option.getD_some]
    cases h2 : r[i]? with
    | none => simp
    | some v => exact h.small r (List.mem_of_getElem? h1) v (List.mem_of_getElem? h2)

theorem sound_put {g : Gram} {x : List Int} {M : List (List Nat)} (hs : Sound g x M) {r : Rule} (hr : r ∈ g.rules) (h0 : 0 ≤ r.l) (hy : ∀ y ∈ r.r, 0 ≤ y.n) {i : Nat} (hi : i ≤ x.length)
    (hn : r.l.toNat < M.length) (hi2 : i < (M.getD r.l.toNat []).length) : Sound g x (putM M r.l i (entry M r.l i ||| seqEnds x M r.r (2 ^ i))) := by
  intro n k j hn0 h
  rw [entry_put hn hi2] at h
  split at h
  · rename_i hc
    obtain ⟨h1, rfl⟩ := hc
    have hnl : n = r.l := by omega
    subst hnl
    rw [Nat.testBit_or, Bool.or_eq_true] at h
    rcases h with h | h
    · exact hs _ _ _ hn0 h
    · have hsh : j ≤ x.length := seq_short (sound_short hs (entry_neg M)) r.r (2 ^ k) j (fun i' hi' => by
        rw [Nat.testBit_two_pow] at hi'
        have : k = i' := by simpa using hi'
        omega) h
      obtain ⟨i', hi', hd⟩ := seq_drv hs r.r hy _ j h hsh
      rw [Nat.testBit_two_pow] at hi'
      have : k = i' := by simpa using hi'
      subst this
      exact .non hr rfl hd (.nil _ hsh)
  · exact hs n k j hn0 h
end Go.Proofs.YtdbkbkopcnkgcaaGreat

open Go Go.RowKit
namespace Go.Proofs.YtdbkbkopcnkgcaaGreat

theorem Tryz.infoU32s : (Tryz.prog.info? 102).map (fun i => (i.zero, i.size, i.bytes)) = some (some (.slice none 0 0), 1, 24) := by kernel_rfl
theorem Tryz.infoU32 : (Tryz.prog.info? 103).map (fun i => (i.zero, i.size, i.bytes)) = some (some (.int .u32 0), 1, 4) := by kernel_rfl

theorem wrap_u32 (x : Int) : IntKind.u32.wrap x = x % 4294967296 := by
  simp [IntKind.wrap, IntKind.bits, IntKind.signed]

theorem he_below {F : Nat → Prop} {w w' : World} {be : Nat} {g : Gram} {x : List Int} {M : List (List Nat)} {A : Option Addr} {n c : Nat} {B : Option Addr} {m d : Nat} {C : Option Addr} {p q : Nat}
    (he : IsEnds F w be g x M A n c B m d C p q) (hb : Below w.heap.size w w') : IsEnds F w' be g x M A n c B m d C p q := by
  have hlt := cell_lt he.c0
  exact ⟨he.fb, (hb.cell (p := ⟨be, 0, none⟩) hlt).trans he.c0, (hb.cell (p := ⟨be, 1, none⟩) hlt).trans he.c1, (hb.cell (p := ⟨be, 2, none⟩) hlt).trans he.c2, (hb.cell (p := ⟨be, 3, none⟩) hlt).trans he.c3, (hb.cell (p := ⟨be, 4, none⟩) hlt).trans he.c4, (hb.cell (p := ⟨be, 5, none⟩) hlt).trans he.c5, he.rules.below hb, he.word.below hb, he.mat.below hb⟩

theorem is_any (F : Nat → Prop) (be : Nat) (g : Gram) (x : List Int) (M : List (List Nat)) (A : Option Addr) (n c : Nat) (B : Option Addr) (m d : Nat) (C : Option Addr) (p q : Nat) (y : Sym) (i j : Nat) (w : World)
    (he : IsEnds F w be g x M A n c B m d C p q) (hl : x.length ≤ 12) (hy : 0 ≤ y.n) (hyn : y.t = false → y.n < M.length) (hM : ∀ r ∈ M, r.length = x.length + 1) (hM2 : ∀ r ∈ M, ∀ v ∈ r, v < 2 ^ 32) (hi : i ≤ 12) (hj : j ≤ 12) :
    Calls Tryz.prog 23 #[.pointer (some ⟨be, 0, none⟩), symV y, .int .i64 i, .int .i64 j] w fun e w' => e = .returned (.bool ((aftTo x M y (2 ^ i) (x.length + 1)).testBit j)) ∧ Below w.heap.size w w' := by
  have hb1 : Below w.heap.size w (w.alloc (.cells #[.bool y.t, .int .i64 y.n] 70)) := (Below.refl _ _).alloc (Nat.le_refl _) _
  unfold symV
  go_enter Tryz.func23, Tryz.ntmps23
  go_wp2_with fail
  have hp : IntKind.u32.wrap ((2 : Int) ^ i) = ((2 ^ i : Nat) : Int) := (wrap_u32 _).trans (pow_mod13 (by omega))
  have HP := Lib.hid hp
  clear hp
  go_region_with ((rw [HP.out]; go_at_call 41; refine (after_any F be g x M A n c B m d C p q y (2 ^ i) _ (he_below he hb1.drew) hl hy hyn hM hM2 (pow_lt13 (by omega))).mono ?_; rintro e w' ⟨rfl, hb⟩))
  go_wp2
  go_ret
  exact ⟨ret_bool (bit_test1 _ j (aftTo_lt x M y _ hM2 _ (by omega))), (hb1.drew).trans (hb.mono (by simp))⟩

structure DMade (w wr : World) (g : Gram) (rs ws : Value) (L N k : Nat) : Prop where
  below : Below w.heap.size w wr
  gram : wr.heap[w.heap.size]? = some (.cells #[.int .i64 g.terms, .int .i64 N, .int .i64 g.start, rs] 25 (0, 0))
  ends : wr.heap[w.heap.size + 2]? = some (.cells #[.int .i64 g.terms, .int .i64 N, .int .i64 g.start, rs, ws, .slice (some ⟨w.heap.size + 1, 0, none⟩) N N] 119 (0, 0))
  of_ : wr.heap[w.heap.size + 1]? = some (.cells ((List.range N).map (fun n => if n < k then (.slice (some ⟨w.heap.size + 3 + n, 0, none⟩) L L : Value) else .slice none 0 0)).toArray 102 (0, 0))
  row : ∀ n, n < k → wr.heap[w.heap.size + 3 + n]? = some (.cells (List.replicate L (.int .u32 0)).toArray 103 (0, 0))
  size : wr.heap.size = w.heap.size + 3 + k

theorem DMade.step {w wr : World} {g : Gram} {rs ws : Value} {L N k : Nat} (h : DMade w wr g rs ws L N k) (hk : k < N) :
    DMade w ((wr.alloc (.cells (madeCells #[.int .u32 0] L) 103)).setCell ⟨w.heap.size + 1, k, none⟩ (.slice (some ⟨wr.heap.size, 0, none⟩) L L)).drew g rs ws L N (k + 1) := by
  have hs := h.size
  have hold : ∀ b, b < wr.heap.size → (wr.alloc (.cells (madeCells #[.int .u32 0] L) 103)).heap[b]? = wr.heap[b]? := fun b hb => Below.heap_alloc wr _ b hb
  refine ⟨?_, ?_, ?_, ?_, ?_, ?_⟩
  · exact ((h.below.alloc h.below.size _).setCell (by show w.heap.size ≤ w.heap.size + 1; omega) _).drew
  · rw [drew_heap, heap_set_ne (by omega), hold _ (by omega)]; exact h.gram
  · rw [drew_heap, heap_set_ne (by omega), hold _ (by omega)]; exact h.ends
  · rw [drew_heap, heap_set (by rw [hold _ (by omega)]; exact h.of_)]
    congr 2
    apply Array.ext'
    simp only [Array.toList_setIfInBounds]
    apply List.ext_getElem?
    intro i
    rw [List.getElem?_set]
    by_cases hi : k = i
    · subst hi; simp [hk, hs]
    · simp only [hi, if_false, List.getElem?_map]
      cases hr : (List.range N)[i]? with
      | none => rfl
      | some v =>
        have hv : v = i := by
          obtain ⟨_, h2⟩ := List.getElem?_eq_some_iff.1 hr
          simp at h2; exact h2.symm
        subst hv
        simp only [Option.map_some]
        by_cases h3 : v < k
        · rw [if_pos h3, if_pos (by omega)]
        · rw [if_neg h3, if_neg (by omega)]
  · intro n hn
    rw [drew_heap, heap_set_ne (by omega)]
    by_cases e : n = k
    · subst e
      rw [← hs, heap_alloc_new, made_one]
    · rw [hold _ (by omega)]; exact h.row n (by omega)
  · rw [drew_heap, size_setCell, World.size_alloc, hs]; omega

theorem DMade.start (w : World) (g : Gram) (rs ws : Value) (L N : Nat) {wr : World} (hw : wr.heap = (((w.alloc (.cells #[.int .i64 g.terms, .int .i64 N, .int .i64 g.start, rs] 25)).alloc (.cells (madeCells #[.slice none 0 0] N) 102)).alloc (.cells #[.int .i64 g.terms, .int .i64 N, .int .i64 g.start, rs, ws, .slice (some ⟨w.heap.size + 1, 0, none⟩) N N] 119)).heap) (hb : Below w.heap.size w wr) :
    DMade w wr g rs ws L N 0 := by
  have e1 : (w.alloc (.cells #[.int .i64 g.terms, .int .i64 N, .int .i64 g.start, rs] 25)).heap.size = w.heap.size + 1 := World.size_alloc _ _
  have e2 : ((w.alloc (.cells #[.int .i64 g.terms, .int .i64 N, .int .i64 g.start, rs] 25)).alloc (.cells (madeCells #[.slice none 0 0] N) 102)).heap.size = w.heap.size + 2 := by rw [World.size_alloc, e1]
  refine ⟨hb, ?_, ?_, ?_, ?_, ?_⟩
  · rw [hw, Below.heap_alloc _ _ _ (by omega), Below.heap_alloc _ _ _ (by omega), heap_alloc_new]
  · rw [hw, ← e2, heap_alloc_new]
  · rw [hw, Below.heap_alloc _ _ _ (by omega), ← e1, heap_alloc_new, made_one]
    congr 2
    apply Array.ext'
    simp only [Nat.not_lt_zero, if_false]
    apply List.ext_getElem <;> simp
  · intro n hn; omega
  · rw [hw, World.size_alloc, e2]

/-- the parser's state in memory -/
structure DInv (w wr : World) (g : Gram) (rs ws : Value) (L N : Nat) (M : List (List Nat)) : Prop where
  below : Below w.heap.size w wr
  gram : wr.heap[w.heap.size]? = some (.cells #[.int .i64 g.terms, .int .i64 N, .int .i64 g.start, rs] 25 (0, 0))
  ends : wr.heap[w.heap.size + 2]? = some (.cells #[.int .i64 g.terms, .int .i64 N, .int .i64 g.start, rs, ws, .slice (some ⟨w.heap.size + 1, 0, none⟩) N N] 119 (0, 0))
  of_ : wr.heap[w.heap.size + 1]? = some (.cells ((List.range N).map (fun n => (.slice (some ⟨w.heap.size + 3 + n, 0, none⟩) L L : Value))).toArray 102 (0, 0))
  row : ∀ n, n < N → wr.heap[w.heap.size + 3 + n]? = some (.cells ((M.getD n []).map (fun v : Nat => Value.int .u32 v)).toArray 103 (0, 0))
  size : w.heap.size + 3 + N ≤ wr.heap.size

theorem DMade.done {w wr : World} {g : Gram} {rs ws : Value} {L N : Nat} (h : DMade w wr g rs ws L N N) : DInv w wr g rs ws L N (List.replicate N (List.replicate L 0)) := by
  refine ⟨h.below, h.gram, h.ends, ?_, ?_, by rw [h.size]; exact Nat.le_refl _⟩
  · rw [h.of_]
    congr 3
    apply List.map_congr_left
    intro n hn
    rw [if_pos (by simpa using hn)]
  · intro n hn
    rw [h.row n hn]
    congr 3
    simp [List.getD_eq_getElem?_getD, hn]

theorem DInv.keep {w wr wr' : World} {g : Gram} {rs ws : Value} {L N : Nat} {M : List (List Nat)} (h : DInv w wr g rs ws L N M) (hb : Below wr.heap.size wr wr') : DInv w wr' g rs ws L N M :=
  have hs := h.size
  ⟨h.below.trans (hb.mono h.below.size), blk_below hb (by omega) h.gram, blk_below hb (by omega) h.ends, blk_below hb (by omega) h.of_, fun n hn => blk_below hb (by omega) (h.row n hn), Nat.le_trans hs hb.size⟩

theorem DInv.isEnds {w wr : World} {g : Gram} {L N : Nat} {M : List (List Nat)} {x : List Int} {A : Option Addr} {n c : Nat} {B : Option Addr} {m d : Nat} {F : Nat → Prop} (h : DInv w wr g (.slice A n c) (.slice B m d) L N M) (hN : g.nons = N) (hs : MShape g x M)
    (hL : L = x.length + 1) (hl : x.length ≤ 12) (hr : IsSl Elt.rule F w (.slice A n c) g.rules) (hx : IsSl Elt.int F w (.slice B m d) x) (hN2 : N ≤ 10) :
    IsEnds (fun _ => True) wr (w.heap.size + 2) g x M A n c B m d (some ⟨w.heap.size + 1, 0, none⟩) N N := by
  have hML : M.length = N := by have := hs.len; omega
  refine ⟨trivial, blk_cell h.ends rfl, by rw [hN]; exact blk_cell h.ends rfl, blk_cell h.ends rfl, blk_cell h.ends rfl, blk_cell h.ends rfl, blk_cell h.ends rfl, (hr.below h.below).weak (fun _ _ => trivial), (hx.below h.below).weak (fun _ _ => trivial), ?_⟩
  refine ⟨_, N, by rw [hML], by omega, fun k hk => ⟨w.heap.size + 1, 0, rfl, trivial, blk_lt h.of_, trivial, some ⟨w.heap.size + 3 + k, 0, none⟩, L, blk_cell h.of_ ?_, ?_, ?_⟩⟩
  · simp [Elt.sl, show k < N by omega]
    rw [hL, hs.row _ (by simp)]
  · rw [hL, hs.row _ (by simp)]; exact Nat.le_refl _
  · have hrk := h.row k (by omega)
    have e : M.getD k [] = M[k] := by simp [List.getD_eq_getElem?_getD, hk]
    rw [e] at hrk
    refine sl_of_blk (enc := fun n : Nat => Value.int .u32 n) _ trivial hrk rfl ?_
    rw [hs.row _ (by simp)]; omega

theorem DInv.put {w wr : World} {g : Gram} {rs ws : Value} {L N : Nat} {M : List (List Nat)} (h : DInv w wr g rs ws L N M) (hM : M.length = N) {n : Int} {i v : Nat} (_hn : n.toNat < N) :
    DInv w (wr.setCell ⟨w.heap.size + 3 + n.toNat, i, none⟩ (.int .u32 v)) g rs ws L N (putM M n i v) := by
  have hs := h.size
  refine ⟨h.below.setCell (by show w.heap.size ≤ w.heap.size + 3 + n.toNat; omega) _, ?_, ?_, ?_, ?_, by rw [size_setCell]; exact hs⟩
  · rw [heap_set_ne (by omega)]; exact h.gram
  · rw [heap_set_ne (by omega)]; exact h.ends
  · rw [heap_set_ne (by omega)]; exact h.of_
  · intro k hk
    by_cases e : k = n.toNat
    · subst e
      rw [heap_set (h.row _ hk)]
      congr 2
      apply Array.ext'
      simp only [Array.toList_setIfInBounds, putM, List.getD_eq_getElem?_getD, List.getElem?_set, hM, hk, if_true, Option.getD_some, List.map_set]
    · rw [heap_set_ne (by omega), h.row k hk]
      congr 3
      simp only [putM, List.getD_eq_getElem?_getD, List.getElem?_set, show ¬ n.toNat = k from fun h => e h.symm, if_false]

/-- one pass over the rules: something new was found, or nothing, and what was looked at is closed -/
def Pass (m : Value) (M0 M : List (List Nat)) (P : Prop) : Prop := (m = .bool true ∧ room M < room M0) ∨ (m = .bool false ∧ M = M0 ∧ P)

theorem init_shape (g : Gram) (x : List Int) (N : Nat) (hN : g.nons = N) : MShape g x (List.replicate N (List.replicate (x.length + 1) 0)) := by
  refine ⟨by simp [hN], ?_, ?_⟩
  · intro r hr; rw [List.eq_of_mem_replicate hr]; simp
  · intro r hr v hv; rw [List.eq_of_mem_replicate hr] at hv; rw [List.eq_of_mem_replicate hv]; omega
theorem entry_init (N L : Nat) (n : Int) (i : Nat) : entry (List.replicate N (List.replicate L 0)) n i = 0 := by
  unfold entry
  simp only [List.getD_eq_getElem?_getD, List.getElem?_replicate]
  split <;> simp [List.getElem?_replicate]
  split <;> simp
theorem init_sound (g : Gram) (x : List Int) (N L : Nat) : Sound g x (List.replicate N (List.replicate L 0)) := by
  intro n i j _ h
  rw [entry_init] at h
  simp at h

/-- what derived leaves -/
structure Derived (w wr : World) (g : Gram) (x : List Int) (A : Option Addr) (n c : Nat) (B : Option Addr) (m d : Nat) (be : Nat) : Prop where
  below : Below w.heap.size w wr
  ends : ∃ M C p q, IsEnds (fun _ => True) wr be g x M A n c B m d C p q ∧ MShape g x M ∧ Sound g x M ∧ Closed g x M

set_option maxRecDepth 100000 in
set_option maxHeartbeats 1600000 in
theorem derived_any (F : Nat → Prop) (g : Gram) (A : Option Addr) (n c : Nat) (x : List Int) (B : Option Addr) (m d : Nat) (w : World) (hr : IsSl Elt.rule F w (.slice A n c) g.rules) (hv : Valid g)
    (hx : IsSl Elt.int F w (.slice B m d) x) (hm : x.length ≤ 12) :
    Calls Tryz.prog 22 #[gramV g (.slice A n c), .slice B m d] w fun e w' => ∃ be : Nat, e = .returned (.pointer (some ⟨be, 0, none⟩)) ∧ Derived w w' g x A n c B m d be := by
  obtain ⟨rfl, hn⟩ := hr.len
  obtain ⟨rfl, hn2⟩ := hx.len
  obtain ⟨N, hN⟩ : ∃ N : Nat, g.nons = N := ⟨g.nons.toNat, by have := hv.n1; omega⟩
  have hN10 : N ≤ 10 := by have := hv.n10; omega
  have hmk := run_make_row' (P := Tryz.prog) 53 102 (.slice none 0 0) 24 Tryz.underlying53 Tryz.infoU32s rfl .i64 .i64 N (by omega) (by omega)
  unfold gramV
  rw [hN]
  have HN := Lib.hid hN
  clear hN
  go_enter Tryz.func22, Tryz.ntmps22
  go_wp2_with fail
  go_region
  go_wp2
  have hmk2 := run_make_row' (P := Tryz.prog) 102 103 (.int .u32 0) 4 Tryz.underlying102 Tryz.infoU32 rfl .i64 .i64 (x.length + 1) (by omega) (by omega)
  simp only [Int.natCast_add, Int.natCast_one] at hmk2
  clear hmk
  go_loopg [26] N (fun gk i wr => ∃ k : Nat, k ≤ N ∧ gk = N - k ∧ i = .int .i64 k ∧ DMade w wr g (.slice A g.rules.length c) (.slice B x.length d) (x.length + 1) N k)
  case atStart =>
    refine ⟨0, by omega, by omega, rfl, DMade.start w g _ _ _ N ?_ ?_⟩
    · rfl
    · exact ((((Below.refl _ _).alloc (Nat.le_refl _) _).alloc (by simp) _).alloc (by simp; omega) _).drew
  case round =>
    obtain ⟨k, hk, rfl, rfl, hD⟩ := hrel
    by_cases hlt : k < N
    · have hgs := hD.size
      have he5 := blk_cell hD.ends (i := 5) rfl
      have he5a : ∀ o, (wr.alloc o).cell? ⟨w.heap.size + 2, 5, none⟩ = some (.slice (some ⟨w.heap.size + 1, 0, none⟩) N N) := fun o => by
        rw [World.cell?_alloc_old _ _ _ (by show w.heap.size + 2 ≠ wr.heap.size; omega)]
        exact he5
      have hst1 : ∀ o, (wr.alloc o).cell? ⟨w.heap.size + 1, k, none⟩ = some (.slice none 0 0) := fun o => by
        rw [World.cell?_alloc_old _ _ _ (by show w.heap.size + 1 ≠ wr.heap.size; omega)]
        exact blk_cell hD.of_ (by simp [hlt])
      have hst2 : ∀ o, (wr.alloc o).frozen? ⟨w.heap.size + 1, k, none⟩ = false := fun o => by
        rw [World.frozen?_of_block (w := wr) (Below.heap_alloc wr o _ (by show w.heap.size + 1 < wr.heap.size; omega))]
        exact blk_free hD.of_
      have hkz : (k : Int) < (N : Int) := by omega
      have HG := Lib.hid hgs
      clear hgs
      go_wp2_with fail
      go_region
      go_wp2
      go_roundg (N - (k + 1))
      case measure => omega
      case rel => exact ⟨k + 1, by omega, rfl, by go_num, hD.step hlt⟩
    · obtain rfl : k = N := by omega
      clear hlt hmk2
      have hD0 := hD.done
      go_wp2
      go_loopg [7] (room (List.replicate k (List.replicate (x.length + 1) 0)) + 1) (fun gk m wr => ∃ M, DInv w wr g (.slice A g.rules.length c) (.slice B x.length d) (x.length + 1) k M ∧ MShape g x M ∧ Sound g x M ∧ ((m = .bool true ∧ gk = room M + 1) ∨ (m = .bool false ∧ gk = 0 ∧ Closed g x M)))
      case atStart => exact ⟨_, hD0, init_shape g x _ HN.out, init_sound g x _ _, .inl ⟨rfl, rfl⟩⟩
      case round =>
        clear hD0 hD
        obtain ⟨M, hD, hsh, hso, hm | hm⟩ := hrel
        · obtain ⟨rfl, rfl⟩ := hm
          have hg3 := blk_cell hD.gram (i := 3) rfl
          go_wp2
          clear hg3
          go_loopg [7, 44] g.rules.length (fun gk m i wr => ∃ (q : Nat) (M' : List (List Nat)), q ≤ g.rules.length ∧ gk = g.rules.length - q ∧ i = .int .i64 q ∧ DInv w wr g (.slice A g.rules.length c) (.slice B x.length d) (x.length + 1) k M' ∧ MShape g x M' ∧ Sound g x M' ∧
            Pass m M M' (∀ e (h : e < g.rules.length), e < q → ∀ i, i ≤ x.length → ClosedR x M g.rules[e] i))
          case atStart => exact ⟨0, M, by omega, by omega, rfl, hD, hsh, hso, .inr ⟨rfl, rfl, fun e h he => by omega⟩⟩
          case round =>
            clear hD hsh hso
            obtain ⟨q, M', hq, rfl, rfl, hD, hsh, hso, hP⟩ := hrel
            obtain ⟨wo, rfl⟩ : ∃ wo : World, wo = wr := ⟨_, rfl⟩
            by_cases hlt : q < g.rules.length
            · obtain ⟨b, o, rfl, hF, hl, hc1, A', c', hc2, hsy⟩ := hr.ruleAt q hlt
              have hok := hv.ok g.rules[q] (by simp)
              have l0 := hok.l0
              have l1 := hok.l1
              have ln := hok.len
              rw [HN.out] at l1
              have hc1' := (hD.below.cell (p := ⟨b, o + q * 2, none⟩) hl).trans hc1
              have hc2' := (hD.below.cell (p := ⟨b, o + q * 2 + 1, none⟩) hl).trans hc2
              have hsz := hD.size
              have he5 := blk_cell hD.ends (i := 5) rfl
              have hof : wo.cell? ⟨w.heap.size + 1, g.rules[q].l.toNat, none⟩ = some (.slice (some ⟨w.heap.size + 3 + g.rules[q].l.toNat, 0, none⟩) (x.length + 1) (x.length + 1)) := blk_cell hD.of_ (by simp [show g.rules[q].l.toNat < k by omega])
              have hs2 : w.heap.size + 1 + 1 < wo.heap.size := by omega
              have hs1 : w.heap.size + 1 < wo.heap.size := by omega
              go_wp2_with fail
              go_quiet (fail)
              go_wp2
              have hD1 : DInv w ((wo.alloc (.cells #[.int .i64 g.rules[q].l, .slice A' g.rules[q].r.length c'] 99)).drewN nq) g (.slice (some ⟨b, o, none⟩) g.rules.length c) (.slice B x.length d) (x.length + 1) k M' := hD.keep (below_drewN ((Below.refl _ _).alloc (Nat.le_refl _) _) _)
              clear hof hc1' hc2' he5
              go_loopg [7, 57] (x.length + 1) (fun gk m i wr => ∃ (p : Nat) (M2 : List (List Nat)), p ≤ x.length + 1 ∧ gk = x.length + 1 - p ∧ i = .int .i64 p ∧ DInv w wr g (.slice (some ⟨b, o, none⟩) g.rules.length c) (.slice B x.length d) (x.length + 1) k M2 ∧ MShape g x M2 ∧ Sound g x M2 ∧
                Pass m M M2 ((∀ e (h : e < g.rules.length), e < q → ∀ i, i ≤ x.length → ClosedR x M g.rules[e] i) ∧ ∀ i, i < p → ClosedR x M g.rules[q] i) ∧ wr.heap[wo.heap.size]? = some (.cells #[.int .i64 g.rules[q].l, .slice A' g.rules[q].r.length c'] 99 (0, 0)))
              case atStart =>
                refine ⟨0, M', by omega, by omega, rfl, hD1, hsh, hso, ?_, ?_⟩
                · rcases hP with hP | ⟨h1, h2, h3⟩
                  · exact .inl hP
                  · exact .inr ⟨h1, h2, h3, fun i hi => by omega⟩
                · rw [drewN_heap, heap_alloc_new]
              case round =>
                clear hD hD1 hsh hso hP
                obtain ⟨p, M2, hp, rfl, rfl, hD, hsh, hso, hP, hrb⟩ := hrel
                by_cases hlt2 : p < x.length + 1
                · have hq1 := blk_cell hrb (i := 1) rfl
                  have hpz : decide ((p : Int) < (x.length : Int) + 1) = true := by simp only [decide_eq_true_eq]; omega
                  have hpw := Lib.hid (pow_mod13 (k := p) (by omega))
                  go_wp2
                  clear hq1
                  obtain ⟨wi, rfl⟩ : ∃ wi : World, wi = wr := ⟨_, rfl⟩
                  go_loopg [11, 65] g.rules[q].r.length (fun gk at_ i wr => ∃ e : Nat, e ≤ g.rules[q].r.length ∧ gk = g.rules[q].r.length - e ∧ i = .int .i64 e ∧ at_ = .int .u32 (seqEnds x M2 (g.rules[q].r.take e) (2 ^ p)) ∧ DInv w wr g (.slice (some ⟨b, o, none⟩) g.rules.length c) (.slice B x.length d) (x.length + 1) k M2 ∧
                    wr.heap[wo.heap.size]? = some (.cells #[.int .i64 g.rules[q].l, .slice A' g.rules[q].r.length c'] 99 (0, 0)))
                  case atStart => exact ⟨0, by omega, by omega, rfl, by rw [hpw.out]; rfl, hD, hrb⟩
                  case round =>
                    clear hD hrb
                    obtain ⟨e, he, rfl, rfl, rfl, hD, hrb⟩ := hrel
                    by_cases hlt3 : e < g.rules[q].r.length
                    · obtain ⟨b3, o3, rfl, hF3, hl3, hc3, hc4⟩ := hsy.symAt e hlt3
                      have hc3' := (hD.below.cell (p := ⟨b3, o3 + e * 2, none⟩) hl3).trans hc3
                      have hc4' := (hD.below.cell (p := ⟨b3, o3 + e * 2 + 1, none⟩) hl3).trans hc4
                      have hsym := hok.syms g.rules[q].r[e] (by simp)
                      have hsn : g.rules[q].r[e].t = false → g.rules[q].r[e].n < M2.length := fun h => by have := hsym.nn h; have := hsh.len; omega
                      have hlt32 := seqEnds_lt hsh.small hm (g.rules[q].r.take e) (2 ^ p) (pow_lt13 (by omega))
                      have hst := seqEnds_take (x := x) (M := M2) (f := 2 ^ p) hlt3
                      have HS := Lib.hid hst
                      have hsz := hD.size
                      have hD2 : DInv w (wr.alloc (.cells #[.bool g.rules[q].r[e].t, .int .i64 g.rules[q].r[e].n] 70)) g (.slice (some ⟨b, o, none⟩) g.rules.length c) (.slice B x.length d) (x.length + 1) k M2 := hD.keep ((Below.refl _ _).alloc (Nat.le_refl _) _)
                      have hls := blk_lt hrb
                      clear hst
                      go_wp2_with fail
                      refine (after_any (fun _ => True) (w.heap.size + 2) g x M2 _ _ _ _ _ _ _ _ _ g.rules[q].r[e] _ _ (hD2.isEnds HN.out hsh rfl hm hr hx hN10) hm hsym.n0 hsn hsh.row hsh.small hlt32).mono ?_
                      rintro e2 w2 ⟨rfl, hb2⟩
                      go_wp2
                      go_roundg (g.rules[q].r.length - (e + 1))
                      case measure => omega
                      case rel => exact ⟨e + 1, by omega, rfl, by go_num, by rw [HS.out], hD2.keep hb2, blk_below hb2 (by rw [World.size_alloc]; omega) ((Below.heap_alloc _ _ _ hls).trans hrb)⟩
                    · obtain rfl : e = g.rules[q].r.length := by omega
                      rw [List.take_length]
                      have hML : M2.length = k := by have := hsh.len; rw [HN.out] at this; omega
                      have hnl : g.rules[q].l.toNat < M2.length := by omega
                      have hrl : p < (M2.getD g.rules[q].l.toNat []).length := by
                        have e1 : M2.getD g.rules[q].l.toNat [] = M2[g.rules[q].l.toNat] := by simp [List.getD_eq_getElem?_getD, hnl]
                        rw [e1, hsh.row _ (by simp)]; omega
                      have hsz := hD.size
                      have hs2 : w.heap.size + 1 + 1 < wr.heap.size := by omega
                      have hl0 := blk_cell hrb (i := 0) rfl
                      have he5 := blk_cell hD.ends (i := 5) rfl
                      have hof : wr.cell? ⟨w.heap.size + 1, g.rules[q].l.toNat, none⟩ = some (.slice (some ⟨w.heap.size + 3 + g.rules[q].l.toNat, 0, none⟩) (x.length + 1) (x.length + 1)) := blk_cell hD.of_ (by simp [show g.rules[q].l.toNat < k by omega])
                      have hcell : wr.cell? ⟨w.heap.size + 3 + g.rules[q].l.toNat, p, none⟩ = some (.int .u32 (entry M2 g.rules[q].l p)) := blk_cell (hD.row _ (by omega)) (by
                        simp only [List.getElem?_toArray, List.getElem?_map, entry, List.getElem?_eq_getElem hrl, Option.map_some]
                        simp [List.getD_eq_getElem?_getD, List.getElem?_eq_getElem (by simpa [List.getD_eq_getElem?_getD] using hrl)])
                      have hfree : wr.frozen? ⟨w.heap.size + 3 + g.rules[q].l.toNat, p, none⟩ = false := blk_free (hD.row _ (by omega))
                      have ha32 := seqEnds_lt hsh.small hm g.rules[q].r (2 ^ p) (pow_lt13 (by omega))
                      have hv32 := entry_lt hsh g.rules[q].l p
                      have hnot := u32_andNot_nat (seqEnds x M2 g.rules[q].r (2 ^ p)) (entry M2 g.rules[q].l p) ha32 hv32
                      have hor := u32_or_nat (entry M2 g.rules[q].l p) (seqEnds x M2 g.rules[q].r (2 ^ p)) hv32 ha32
                      have hpx : (p : Int) < (x.length : Int) + 1 := by omega
                      have hpx2 : p < x.length + 1 := by omega
                      have hmem : g.rules[q] ∈ g.rules := by simp
                      by_cases hz : seqEnds x M2 g.rules[q].r (2 ^ p) &&& (4294967295 - entry M2 g.rules[q].l p) = 0
                      · have hzz : (bits BinOp.andNot IntKind.u32 (seqEnds x M2 g.rules[q].r (2 ^ p) : Nat) (entry M2 g.rules[q].l p : Nat) != 0) = false := by rw [hnot, hz]; rfl
                        have hcr : ClosedR x M2 g.rules[q] p := fun j => andNot_zero ha32 hv32 hz j
                        have hP2 : Pass u7 M M2 ((∀ e (h : e < g.rules.length), e < q → ∀ i, i ≤ x.length → ClosedR x M g.rules[e] i) ∧ ∀ i, i < p + 1 → ClosedR x M g.rules[q] i) := by
                          rcases hP with hP | ⟨h1, h2, h3, h4⟩
                          · exact .inl hP
                          · refine .inr ⟨h1, h2, h3, fun i hi => ?_⟩
                            by_cases ei : i = p
                            · subst ei; rw [← h2]; exact hcr
                            · exact h4 i (by omega)
                        clear hnot hor hz hP hcr
                        go_wp2_with fail
                        go_quiet (fail)
                        go_wp2
                        go_roundg (x.length + 1 - (p + 1))
                        case measure => omega
                        case rel => exact ⟨p + 1, M2, by omega, rfl, by go_num, hD.keep (below_drewN (Below.refl _ _) _), hsh, hso, hP2, hrb⟩
                      · have hzz : (bits BinOp.andNot IntKind.u32 (seqEnds x M2 g.rules[q].r (2 ^ p) : Nat) (entry M2 g.rules[q].l p : Nat) != 0) = true := by
                          rw [hnot, bne_iff_ne]; intro h; exact hz (by omega)
                        have hmore := andNot_more ha32 hv32 hz
                        have hroom := room_put hnl hrl hmore (or_lt hv32 ha32)
                        have hP2 : Pass (.bool true) M (putM M2 g.rules[q].l p (entry M2 g.rules[q].l p ||| seqEnds x M2 g.rules[q].r (2 ^ p))) ((∀ e (h : e < g.rules.length), e < q → ∀ i, i ≤ x.length → ClosedR x M g.rules[e] i) ∧ ∀ i, i < p + 1 → ClosedR x M g.rules[q] i) := by
                          rcases hP with ⟨_, hP⟩ | ⟨_, h2, _⟩
                          · exact .inl ⟨rfl, by omega⟩
                          · subst h2; exact .inl ⟨rfl, hroom⟩
                        have hso2 := sound_put hso hmem l0 (fun y hy => (hok.syms y hy).n0) (by omega) hnl hrl
                        have hsh2 := hsh.put (i := p) (or_lt hv32 ha32) hnl
                        have HO := Lib.hid hor
                        clear hnot hor hz hP hmore hroom
                        go_wp2_with fail
                        go_quiet (fail)
                        go_wp2_with fail
                        go_region
                        go_wp2
                        go_roundg (x.length + 1 - (p + 1))
                        case measure => omega
                        case rel =>
                          rw [HO.out]
                          exact ⟨p + 1, _, by omega, rfl, by go_num, (hD.keep (below_drewN (Below.refl _ _) _)).put hML (by omega), hsh2, hso2, hP2, by rw [heap_set_ne (by omega)]; exact hrb⟩
                · obtain rfl : p = x.length + 1 := by omega
                  have hP2 : Pass u7 M M2 (∀ e (h : e < g.rules.length), e < q + 1 → ∀ i, i ≤ x.length → ClosedR x M g.rules[e] i) := by
                    rcases hP with hP | ⟨h1, h2, h3, h4⟩
                    · exact .inl hP
                    · refine .inr ⟨h1, h2, fun e he hq i hi => ?_⟩
                      by_cases eq : e = q
                      · subst eq; exact h4 i (by omega)
                      · exact h3 e he (by omega) i hi
                  clear hP
                  go_wp2
                  go_roundg (g.rules.length - (q + 1))
                  case measure => omega
                  case rel => exact ⟨q + 1, M2, by omega, rfl, by go_num, hD, hsh, hso, hP2⟩
            · obtain rfl : q = g.rules.length := by omega
              rcases hP with ⟨rfl, hP⟩ | ⟨rfl, rfl, hP⟩
              · go_wp2
                go_roundg (room M' + 1)
                case measure => omega
                case rel => exact ⟨M', hD, hsh, hso, .inl ⟨rfl, rfl⟩⟩
              · go_wp2
                go_roundg 0
                case measure => omega
                case rel => exact ⟨M', hD, hsh, hso, .inr ⟨rfl, rfl, fun r hr i hi => by
                  obtain ⟨e, he, rfl⟩ := List.getElem_of_mem hr
                  exact hP e he he i hi⟩⟩
        · obtain ⟨rfl, rfl, hcl⟩ := hm
          go_wp2
          go_ret
          exact ⟨_, rfl, hD.below, M, _, _, _, hD.isEnds HN.out hsh rfl hm hr hx hN10, hsh, hso, hcl⟩
end Go.Proofs.YtdbkbkopcnkgcaaGreat

open Go Go.RowKit
namespace Go.Proofs.YtdbkbkopcnkgcaaGreat

theorem is_start (be : Nat) (g : Gram) (x : List Int) (M : List (List Nat)) (A : Option Addr) (n c : Nat) (B : Option Addr) (m d : Nat) (C : Option Addr) (p q : Nat) (w : World)
    (he : IsEnds (fun _ => True) w be g x M A n c B m d C p q) (hl : x.length ≤ 12) (h0 : 0 ≤ g.start) (h1 : g.start < g.nons) (hsh : MShape g x M) (hso : Sound g x M) (hcl : Closed g x M) :
    Calls Tryz.prog 23 #[.pointer (some ⟨be, 0, none⟩), .agg #[.bool false, .int .i64 g.start], .int .i64 0, .int .i64 x.length] w fun e w' => (∃ b : Bool, e = .returned (.bool b) ∧ (b = true ↔ Drv g x [⟨false, g.start⟩] 0 x.length)) ∧ Below w.heap.size w w' := by
  refine (is_any _ be g x M A n c B m d C p q ⟨false, g.start⟩ 0 x.length w he hl h0 (fun _ => by have := hsh.len; show g.start < _; omega) hsh.row hsh.small (by omega) hl).mono ?_
  rintro e w' ⟨rfl, hb⟩
  refine ⟨⟨_, rfl, ?_⟩, hb⟩
  rw [← ends_iff hso hcl _ h0, aftTo_bit]
  constructor
  · rintro ⟨i, _, h2, h3⟩
    rw [Nat.testBit_two_pow] at h2
    have : 0 = i := by simpa using h2
    subst this
    rwa [aft1_non] at h3
  · intro h
    exact ⟨0, by omega, by simp, by rwa [aft1_non]⟩

set_option maxHeartbeats 1600000 in
theorem accepts_any (F : Nat → Prop) (g : Gram) (A : Option Addr) (n c : Nat) (x : List Int) (B : Option Addr) (m d : Nat) (w : World) (hr : IsSl Elt.rule F w (.slice A n c) g.rules) (hv : Valid g) (hc : n ≤ c)
    (hx : IsSl Elt.int F w (.slice B m d) x) (ho : OkWord g x) (hm : x.length ≤ 12) :
    Calls Tryz.prog 16 #[gramV g (.slice A n c), .slice B m d] w fun e w' => ∃ b : Bool, e = .returned (.tuple #[.bool b, .int .i64 0]) ∧ (b = true ↔ Drv g x [⟨false, g.start⟩] 0 x.length) ∧ Below w.heap.size w w' := by
  obtain ⟨rfl, hn2⟩ := hx.len
  go_enter Tryz.func16, Tryz.ntmps16
  unfold gramV
  have hb1 : Below w.heap.size w (w.alloc (.cells #[.int .i64 g.terms, .int .i64 g.nons, .int .i64 g.start, .slice A n c] 25)) := (Below.refl _ _).alloc (Nat.le_refl _) _
  go_wp2_with fail
  refine (check_ok F g A n c x B _ d _ (hr.below hb1) hv hc (hx.below hb1) ho hm).mono ?_
  rintro e w1 ⟨rfl, hb2⟩
  have hb3 : Below w.heap.size w w1 := hb1.trans (hb2.mono (by simp))
  have hb4 : Below (w.heap.size + 1) (w.alloc (.cells #[.int .i64 g.terms, .int .i64 g.nons, .int .i64 g.start, .slice A n c] 25)) w1 := hb2.mono (by simp)
  have h0 := box_cell hb4 (j := 0) rfl
  have h1 := box_cell hb4 (j := 1) rfl
  have h2 := box_cell hb4 (j := 2) rfl
  have h3 := box_cell hb4 (j := 3) rfl
  have hS : w.heap.size < w1.heap.size := by have := hb4.size; rw [World.size_alloc] at this; omega
  have hs0 := hv.s0
  have hs1 := hv.s1
  go_wp2_with fail
  go_region_with (first | (go_at_call 22; refine (derived_any F g A n c x B _ d _ (hr.below hb3.drew) hv (hx.below hb3.drew) hm).mono ?_; rintro e w2 ⟨be, rfl, hd⟩; have hs2 := (hd.below.cell (p := ⟨w.heap.size, 2, none⟩) hS).trans h2; obtain ⟨hbd, M, C, p, q, he, hsh, hso, hcl⟩ := hd) | (go_at_call 23; refine (is_start _ g x M _ _ _ _ _ _ _ _ _ _ he hm hs0 hs1 hsh hso hcl).mono ?_; rintro e w3 ⟨⟨b, rfl, hbi⟩, hb5⟩))
  all_goals go_wp2
  all_goals go_ret2
  all_goals exact ⟨b, rfl, hbi, (hb3.drew.trans (hbd.mono (by have := hb3.size; exact this))).trans (hb5.mono (Nat.le_trans hb3.size hbd.size))⟩
end Go.Proofs.YtdbkbkopcnkgcaaGreat
