import Derived.Test.YtdbkbkopcnkgcaaGramC
import Derived.Test.YtdbkbkopcnkgcaaBits
open Go Go.RowKit
namespace Go.Proofs.Ytdbkbkopcnkgcaa

/-- what a symbol that begins at i can end at -/
def aft1 (x : List Int) (M : List (List Nat)) (y : Sym) (i : Nat) : Nat :=
  if y.t then (if x[i]? = some y.n then 2 ^ (i + 1) else 0) else (M.getD y.n.toNat []).getD i 0
def aftTo (x : List Int) (M : List (List Nat)) (y : Sym) (f : Nat) : Nat → Nat
  | 0 => 0
  | k + 1 => if f.testBit k then aftTo x M y f k ||| aft1 x M y k else aftTo x M y f k

/-- the parser's state: grammar, word, ends -/
theorem aft1_lt (x : List Int) (M : List (List Nat)) (y : Sym) (i : Nat) (hi : i ≤ 12) (hM : ∀ r ∈ M, ∀ v ∈ r, v < 2 ^ 32) : aft1 x M y i < 2 ^ 32 := by
  unfold aft1
  split
  · split
    · exact pow_lt13 (by omega)
    · omega
  · rw [List.getD_eq_getElem?_getD, List.getD_eq_getElem?_getD]
    cases h : M[y.n.toNat]? with
    | none => simp
    | some r =>
      simp only [Option.getD_some]
      cases h2 : r[i]? with
      | none => simp
      | some v => exact hM r (List.mem_of_getElem? h) v (List.mem_of_getElem? h2)
theorem aftTo_lt (x : List Int) (M : List (List Nat)) (y : Sym) (f : Nat) (hM : ∀ r ∈ M, ∀ v ∈ r, v < 2 ^ 32) : ∀ k, k ≤ 13 → aftTo x M y f k < 2 ^ 32
  | 0, _ => by simp [aftTo]
  | k + 1, h => by
    unfold aftTo
    split
    · exact or_lt (aftTo_lt x M y f hM k (by omega)) (aft1_lt x M y k (by omega) hM)
    · exact aftTo_lt x M y f hM k (by omega)
theorem aftTo_no {x : List Int} {M : List (List Nat)} {y : Sym} {f k : Nat} (h : f.testBit k = false) : aftTo x M y f (k + 1) = aftTo x M y f k := by rw [aftTo, h]; rfl
theorem aftTo_yes {x : List Int} {M : List (List Nat)} {y : Sym} {f k : Nat} (h : f.testBit k = true) : aftTo x M y f (k + 1) = aftTo x M y f k ||| aft1 x M y k := by rw [aftTo, h]; rfl

structure IsEnds (F : Nat → Prop) (w : World) (be : Nat) (g : Gram) (x : List Int) (M : List (List Nat)) (A : Option Addr) (n c : Nat) (B : Option Addr) (m d : Nat) (C : Option Addr) (p q : Nat) : Prop where
  fb : F be
  c0 : w.cell? ⟨be, 0, none⟩ = some (.int .i64 g.terms)
  c1 : w.cell? ⟨be, 1, none⟩ = some (.int .i64 g.nons)
  c2 : w.cell? ⟨be, 2, none⟩ = some (.int .i64 g.start)
  c3 : w.cell? ⟨be, 3, none⟩ = some (.slice A n c)
  c4 : w.cell? ⟨be, 4, none⟩ = some (.slice B m d)
  c5 : w.cell? ⟨be, 5, none⟩ = some (.slice C p q)
  rules : IsSl Elt.rule F w (.slice A n c) g.rules
  word : IsSl Elt.int F w (.slice B m d) x
  mat : IsSl (Elt.sl Elt.u32) F w (.slice C p q) M

theorem IsSl.rowAt {α : Type} {d : Elt α} {F : Nat → Prop} {w : World} {A : Option Addr} {n c : Nat} {xs : List (List α)} (h : IsSl (Elt.sl d) F w (.slice A n c) xs) (k : Nat) (hk : k < xs.length) :
    ∃ b o, A = some ⟨b, o, none⟩ ∧ F b ∧ b < w.heap.size ∧ ∃ A' c', w.cell? ⟨b, o + k, none⟩ = some (.slice A' xs[k].length c') ∧ IsSl d F w (.slice A' xs[k].length c') xs[k] := by
  obtain ⟨A', c', he, hl, h⟩ := h
  injection he with h1 h2 h3
  subst h1
  obtain ⟨b, o, rfl, hb, hlt, he⟩ := h k hk
  obtain ⟨_, A2, c2, h2, _, h3⟩ := he
  simp only [Elt.sl, Nat.mul_one] at h2
  exact ⟨b, o, rfl, hb, hlt, A2, c2, h2, h3⟩

set_option maxRecDepth 100000 in
set_option maxHeartbeats 400000 in
theorem after_any (F : Nat → Prop) (be : Nat) (g : Gram) (x : List Int) (M : List (List Nat)) (A : Option Addr) (n c : Nat) (B : Option Addr) (m d : Nat) (C : Option Addr) (p q : Nat) (y : Sym) (f : Nat) (w : World)
    (he : IsEnds F w be g x M A n c B m d C p q) (hl : x.length ≤ 12) (hy : 0 ≤ y.n) (hyn : y.t = false → y.n < M.length) (hM : ∀ r ∈ M, r.length = x.length + 1) (hM2 : ∀ r ∈ M, ∀ v ∈ r, v < 2 ^ 32) (hf : f < 2 ^ 32) :
    Calls Try.prog 105 #[.pointer (some ⟨be, 0, none⟩), symV y, .int .u32 f] w fun e w' => e = .returned (.int .u32 (aftTo x M y f (x.length + 1))) ∧ Below w.heap.size w w' := by
  obtain ⟨rfl, hn⟩ := he.word.len
  have hc4 := he.c4
  have hc5 := he.c5
  have hbe := cell_lt hc4
  unfold symV
  go_enter Try.func105, Try.ntmps105
  go_wp2
  go_loopw [7, 8] (fun o i wr => ∃ k : Nat, k ≤ x.length + 1 ∧ i = .int .i64 k ∧ o = .int .u32 (aftTo x M y f k) ∧ Below (w.heap.size + 1) (w.alloc (.cells #[.bool y.t, .int .i64 y.n] 37)) wr) (fun _ i _ => x.length + 1 - (intOf i).toNat)
  case atStart => exact ⟨0, by omega, rfl, rfl, Below.refl _ _⟩
  case round =>
    obtain ⟨k, hk, rfl, rfl, hb⟩ := hrel
    have hb0 : Below w.heap.size w wr := ((Below.refl _ _).alloc (Nat.le_refl _) _).trans (hb.mono (by omega))
    have hg0 := box_cell hb (j := 0) rfl
    have hg1 := box_cell hb (j := 1) rfl
    have hc4r := (hb0.cell (p := ⟨be, 4, none⟩) hbe).trans hc4
    have hc5r := (hb0.cell (p := ⟨be, 5, none⟩) hbe).trans hc5
    by_cases hlt : k ≤ x.length
    · have hto := aftTo_lt x M y f hM2 k (by omega)
      cases hbit : f.testBit k
      · have hbt := bit_testF f k hf hbit
        have hst := aftTo_no (x := x) (M := M) (y := y) hbit
        have HS := Lib.hid hst
        clear hst hbit
        go_wp2
        go_roundw
        case rel => exact ⟨k + 1, by omega, by go_num, by rw [HS.out], hb⟩
        case measure => simp [intOf]; omega
      · have hbt := bit_testT f k hf hbit
        have hst := aftTo_yes (x := x) (M := M) (y := y) hbit
        have hto2 := aft1_lt x M y k (by omega) hM2
        have hor := u32_or_nat (aftTo x M y f k) (aft1 x M y k) hto hto2
        rw [← hst] at hor
        have HO := Lib.hid hor
        have HS := Lib.hid hst
        clear hst hbit hor
        obtain ⟨yt, yn⟩ := y
        simp only at hy
        cases yt
        · have hyn' := hyn rfl
          simp only at hyn'
          obtain ⟨b, o, rfl, hF, hl2, A2, c2, hc6, hro⟩ := (he.mat.below hb0).rowAt yn.toNat (by omega)
          have hrl := hM M[yn.toNat] (by simp)
          obtain ⟨b3, o3, rfl, hF3, hl3, hc7⟩ := hro.oneAt k (by omega)
          have ha : aft1 x M ⟨false, yn⟩ k = M[yn.toNat][k] := by simp [aft1, List.getD_eq_getElem?_getD, List.getElem?_eq_getElem (show yn.toNat < M.length by omega), List.getElem?_eq_getElem (show k < M[yn.toNat].length by omega)]
          have HA := Lib.hid ha
          clear ha
          obtain ⟨rfl, hp⟩ := he.mat.len
          go_wp2_with fail
          go_quiet (fail)
          go_wp2
          go_roundw
          case rel => exact ⟨k + 1, by omega, by go_num, by rw [← HA.out, HO.out], below_drewN hb _⟩
          case measure => simp [intOf]; omega
        · by_cases hk2 : k < x.length
          · obtain ⟨b3, o3, rfl, hF3, hl3, hc7⟩ := (he.word.below hb0).oneAt k hk2
            by_cases hxe : x[k] = yn
            · have hxe' : (x[k] == yn) = true := by simp [hxe]
              have ha : aft1 x M ⟨true, yn⟩ k = 2 ^ (k + 1) := by simp [aft1, List.getElem?_eq_getElem hk2, hxe]
              have HA := Lib.hid ha
              clear ha hxe
              go_wp2_with fail
              go_quiet (fail)
              go_wp2
              go_roundw
              case rel => exact ⟨k + 1, by omega, by go_num, by rw [pow_mod13 (by omega), ← HA.out, HO.out], below_drewN hb _⟩
              case measure => simp [intOf]; omega
            · have hxe' : (x[k] == yn) = false := by simp [hxe]
              have ha : aft1 x M ⟨true, yn⟩ k = 0 := by simp [aft1, List.getElem?_eq_getElem hk2, hxe]
              have HA := Lib.hid ha
              clear ha hxe
              go_wp2_with fail
              go_quiet (fail)
              go_wp2
              go_roundw
              case rel => exact ⟨k + 1, by omega, by go_num, by rw [HS.out, HA.out, Nat.or_zero], below_drewN hb _⟩
              case measure => simp [intOf]; omega
          · have ha : aft1 x M ⟨true, yn⟩ k = 0 := by simp [aft1, List.getElem?_eq_none (show x.length ≤ k by omega)]
            have HA := Lib.hid ha
            clear ha
            have hd : decide (k < x.length) = false := by simpa using hk2
            go_wp2_with fail
            go_quiet (fail)
            go_wp2
            go_roundw
            case rel => exact ⟨k + 1, by omega, by go_num, by rw [HS.out, HA.out, Nat.or_zero], below_drewN hb _⟩
            case measure => simp [intOf]; omega
    · go_wp2
      go_ret
      exact ⟨ret_int (by rw [show k = x.length + 1 from by omega]), hb0⟩
end Go.Proofs.Ytdbkbkopcnkgcaa
