import Derived.Test.YtdbkbkopcnkgcaaForA
open Go Go.RowKit
namespace Go.Proofs.Ytdbkbkopcnkgcaa

/-- the maker of a forest in memory -/
structure MkAt (F : Nat → Prop) (w : World) (bm : Nat) (g : Gram) (x : List Int) (M : List (List Nat)) (A : Option Addr) (c : Nat) (B : Option Addr) (d : Nat) (C : Option Addr) (q : Nat) (wm : Value) (many : Nat) : Prop where
  blk : w.heap[bm]? = some (.cells #[.int .i64 g.terms, .int .i64 g.nons, .int .i64 g.start, .slice A g.rules.length c, .slice B x.length d, .slice C M.length q, wm, .int .i64 many] 109 (0, 0))
  rules : IsSl Elt.rule F w (.slice A g.rules.length c) g.rules
  word : IsSl Elt.int F w (.slice B x.length d) x
  mat : IsSl (Elt.sl Elt.u32) F w (.slice C M.length q) M

section
variable {F : Nat → Prop} {w : World} {bm : Nat} {g : Gram} {x : List Int} {M : List (List Nat)} {A : Option Addr} {c : Nat} {B : Option Addr} {d : Nat} {C : Option Addr} {q : Nat} {wm : Value} {many : Nat}

theorem MkAt.below {w' : World} (h : MkAt F w bm g x M A c B d C q wm many) (hb : Below w.heap.size w w') : MkAt F w' bm g x M A c B d C q wm many :=
  ⟨blk_below hb (blk_lt h.blk) h.blk, h.rules.below hb, h.word.below hb, h.mat.below hb⟩

set_option maxRecDepth 100000 in
set_option maxHeartbeats 400000 in
theorem fafter_any (y : Sym) (i : Nat) (w : World) (he : MkAt F w bm g x M A c B d C q wm many) (hl : x.length ≤ 12) (hi : i ≤ x.length) (hy : 0 ≤ y.n) (hyn : y.t = false → y.n < M.length) (hM : ∀ r ∈ M, r.length = x.length + 1) :
    Calls Try.prog 122 #[.pointer (some ⟨bm, 0, none⟩), symV y, .int .i64 i] w fun e w' => e = .returned (.int .u32 (aft1 x M y i)) ∧ Below w.heap.size w w' := by
  have hc4 := blk_cell he.blk (i := 4) rfl
  have hc5 := blk_cell he.blk (i := 5) rfl
  have hbm := blk_lt he.blk
  have hmn := he.mat.len.2
  unfold symV
  obtain ⟨yt, yn⟩ := y
  simp only at hy
  cases yt
  · have hyn' := hyn rfl
    simp only at hyn'
    obtain ⟨b, o, rfl, hF, hl2, A2, c2, hc6, hro⟩ := he.mat.rowAt yn.toNat (by omega)
    have hrl := hM M[yn.toNat] (by simp)
    obtain ⟨b3, o3, rfl, hF3, hl3, hc7⟩ := hro.oneAt i (by omega)
    have ha : aft1 x M ⟨false, yn⟩ i = M[yn.toNat][i] := by simp [aft1, List.getD_eq_getElem?_getD, List.getElem?_eq_getElem (show yn.toNat < M.length by omega), List.getElem?_eq_getElem (show i < M[yn.toNat].length by omega)]
    have HA := Lib.hid ha
    clear ha
    have hil : i < M[yn.toNat].length := by omega
    go_enter Try.func122, Try.ntmps122
    go_wp2_with fail
    go_quiet (fail)
    go_wp2
    go_ret
    exact ⟨ret_int (by rw [HA.out]), below_drewN ((Below.refl _ _).alloc (Nat.le_refl _) _) _⟩
  · by_cases hk2 : i < x.length
    · obtain ⟨b3, o3, rfl, hF3, hl3, hc7⟩ := he.word.oneAt i hk2
      by_cases hxe : x[i] = yn
      · have hxe' : (x[i] == yn) = true := by simp [hxe]
        have ha : aft1 x M ⟨true, yn⟩ i = 2 ^ (i + 1) := by simp [aft1, List.getElem?_eq_getElem hk2, hxe]
        have HA := Lib.hid ha
        clear ha hxe
        go_enter Try.func122, Try.ntmps122
        go_wp2_with fail
        go_quiet (fail)
        go_wp2
        go_ret
        exact ⟨ret_int (by rw [HA.out, pow_mod13 (by omega)]), below_drewN ((Below.refl _ _).alloc (Nat.le_refl _) _) _⟩
      · have hxe' : (x[i] == yn) = false := by simp [hxe]
        have ha : aft1 x M ⟨true, yn⟩ i = 0 := by simp [aft1, List.getElem?_eq_getElem hk2, hxe]
        have HA := Lib.hid ha
        clear ha hxe
        go_enter Try.func122, Try.ntmps122
        go_wp2_with fail
        go_quiet (fail)
        go_wp2
        go_ret
        exact ⟨ret_int (by rw [HA.out]; rfl), below_drewN ((Below.refl _ _).alloc (Nat.le_refl _) _) _⟩
    · have ha : aft1 x M ⟨true, yn⟩ i = 0 := by simp [aft1, List.getElem?_eq_none (show x.length ≤ i by omega)]
      have HA := Lib.hid ha
      clear ha
      have hd : decide (i < x.length) = false := by simpa using hk2
      go_enter Try.func122, Try.ntmps122
      go_wp2_with fail
      go_quiet (fail)
      go_wp2
      go_ret
      exact ⟨ret_int (by rw [HA.out]; rfl), below_drewN ((Below.refl _ _).alloc (Nat.le_refl _) _) _⟩

theorem aftTo_zero {y : Sym} {f : Nat} : ∀ k, (∀ j, j < k → f.testBit j = false) → aftTo x M y f k = 0
  | 0, _ => by simp [aftTo]
  | k + 1, h => by rw [aftTo_no (h k (by omega)), aftTo_zero k (fun j hj => h j (by omega))]

theorem aft1_low (hM : MLow M) {y : Sym} {i j : Nat} (h : (aft1 x M y i).testBit j = true) : i ≤ j := by
  obtain ⟨t, n⟩ := y
  cases t
  · rw [aft1_non] at h; exact hM n i j h
  · obtain ⟨_, rfl⟩ := (aft1_term x M n i j).1 h; omega
theorem seq_low (hM : MLow M) : ∀ (l : List Sym) (f i j : Nat), (∀ k, f.testBit k = true → i ≤ k) → (seqEnds x M l f).testBit j = true → i ≤ j
  | [], _, _, j, hf, h => hf j h
  | y :: l, f, i, j, hf, h => seq_low hM l _ i j (fun k hk => by
      obtain ⟨i', _, h1, h2⟩ := (aftTo_bit x M y f k _).1 hk
      have := hf i' h1
      have := aft1_low hM h2
      omega) h

set_option maxRecDepth 100000 in
set_option maxHeartbeats 800000 in
theorem run_any (F2 : Nat → Prop) (l : List Sym) (L : Option Addr) (n cl : Nat) (i : Nat) (w : World) (he : MkAt F w bm g x M A c B d C q wm many) (hs : IsSl Elt.sym F2 w (.slice L n cl) l) (hl : x.length ≤ 12) (hi : i ≤ x.length) (hy : ∀ y ∈ l, 0 ≤ y.n ∧ (y.t = false → y.n < M.length)) (hM : ∀ r ∈ M, r.length = x.length + 1) (hM2 : ∀ r ∈ M, ∀ v ∈ r, v < 2 ^ 32) (hlow : MLow M) :
    Calls Try.prog 99 #[.pointer (some ⟨bm, 0, none⟩), .slice L n cl, .int .i64 i] w fun e w' => e = .returned (.int .u32 (seqEnds x M l (2 ^ i))) ∧ Below w.heap.size w w' := by
  obtain ⟨rfl, hn⟩ := hs.len
  have hpw := Lib.hid (pow_mod13 (k := i) (by omega))
  have hbm := blk_lt he.blk
  go_enter Try.func99, Try.ntmps99
  go_wp2
  go_loopg [7, 16] l.length (fun gk now k wr => ∃ e : Nat, e ≤ l.length ∧ gk = l.length - e ∧ k = .int .i64 e ∧ now = .int .u32 (seqEnds x M (l.take e) (2 ^ i)) ∧ Below w.heap.size w wr)
  case atStart => exact ⟨0, by omega, by omega, rfl, by rw [hpw.out]; rfl, Below.refl _ _⟩
  case round =>
    obtain ⟨e, hel, rfl, rfl, rfl, hb⟩ := hrel
    have hsz := hb.size
    by_cases hlt : e < l.length
    · obtain ⟨b3, o3, rfl, hF3, hl3, hc3, hc4⟩ := (hs.below hb).symAt e hlt
      have hye := hy l[e] (by simp)
      have hst := seqEnds_take (x := x) (M := M) (f := 2 ^ i) hlt
      have HS := Lib.hid hst
      clear hst
      have hf32 := seqEnds_lt hM2 hl (l.take e) (2 ^ i) (pow_lt13 (by omega))
      have hflow : ∀ k, (seqEnds x M (l.take e) (2 ^ i)).testBit k = true → i ≤ k := fun k hk => seq_low hlow (l.take e) (2 ^ i) i k (fun k' hk' => by rw [Nat.testBit_two_pow] at hk'; have : i = k' := (by simpa using hk'); omega) hk
      generalize l[e] = y at hc3 hc4 hye HS
      generalize seqEnds x M (l.take e) (2 ^ i) = f at HS hf32 hflow
      have h0 := Lib.hid (aftTo_zero (x := x) (M := M) (y := y) (f := f) i (fun j hj => by
        cases h : f.testBit j with
        | false => rfl
        | true => have := hflow j h; omega))
      obtain ⟨wo, rfl⟩ : ∃ wo : World, wo = wr := ⟨_, rfl⟩
      go_wp2_with fail
      have hsy := heap_alloc_new wo (.cells #[.bool y.t, .int .i64 y.n] 37)
      have hbs : Below w.heap.size w (wo.alloc (.cells #[.bool y.t, .int .i64 y.n] 37)) := hb.alloc hsz _
      clear hc3 hc4 hflow
      go_loopg [10, 11] (x.length + 1 - i) (fun gk nx p wr => ∃ a : Nat, i ≤ a ∧ a ≤ x.length + 1 ∧ gk = x.length + 1 - a ∧ p = .int .i64 a ∧ nx = .int .u32 (aftTo x M y f a) ∧ Below w.heap.size w wr ∧ wr.heap[wo.heap.size]? = some (.cells #[.bool y.t, .int .i64 y.n] 37 (0, 0)))
      case atStart => exact ⟨i, by omega, by omega, by omega, rfl, by rw [h0.out]; rfl, hbs, hsy⟩
      case round =>
        clear hbs hsy hb
        obtain ⟨a, hia, ha, rfl, rfl, rfl, hb, hsy⟩ := hrel
        have hmk := he.below hb
        have hc4 := blk_cell hmk.blk (i := 4) rfl
        by_cases hlt2 : a < x.length + 1
        · have haz : a ≤ x.length := by omega
          have hto := aftTo_lt x M y f hM2 a (by omega)
          have hs0 := blk_cell hsy (i := 0) rfl
          have hs1 := blk_cell hsy (i := 1) rfl
          have hwl := blk_lt hsy
          cases hbit : f.testBit a
          · have hbt : (bits BinOp.and IntKind.u32 ((f : Int) / 2 ^ a) 1 == 1) = false := by rw [bit_test1 f a hf32, hbit]
            have hst := aftTo_no (x := x) (M := M) (y := y) hbit
            have HN := Lib.hid hst
            clear hst hbit
            go_wp2_with fail
            go_roundg (x.length + 1 - (a + 1))
            case measure => omega
            case rel => exact ⟨a + 1, by omega, by omega, rfl, by go_num, by rw [HN.out], hb, hsy⟩
          · have hbt : (bits BinOp.and IntKind.u32 ((f : Int) / 2 ^ a) 1 == 1) = true := by rw [bit_test1 f a hf32, hbit]
            have hst := aftTo_yes (x := x) (M := M) (y := y) hbit
            have hto2 := aft1_lt x M y a (by omega) hM2
            have hor := u32_or_nat (aftTo x M y f a) (aft1 x M y a) hto hto2
            rw [← hst] at hor
            have HO := Lib.hid hor
            clear hst hbit hor
            go_wp2_with fail
            refine (fafter_any y a _ hmk hl haz hye.1 hye.2 hM).mono ?_
            rintro e2 w2 ⟨rfl, hb2⟩
            go_wp2
            go_roundg (x.length + 1 - (a + 1))
            case measure => omega
            case rel => exact ⟨a + 1, by omega, by omega, rfl, by go_num, by rw [HO.out], hb.trans (hb2.mono hb.size), blk_below hb2 hwl hsy⟩
        · obtain rfl : a = x.length + 1 := by omega
          have haz : decide (((x.length + 1 : Nat) : Int) ≤ (x.length : Int)) = false := by simp; omega
          go_wp2_with fail
          go_roundg (l.length - (e + 1))
          case measure => omega
          case rel => exact ⟨e + 1, by omega, rfl, by go_num, by rw [HS.out], hb⟩
    · obtain rfl : e = l.length := by omega
      rw [List.take_length]
      go_wp2
      go_ret
      exact ⟨rfl, hb⟩
end
end Go.Proofs.Ytdbkbkopcnkgcaa
