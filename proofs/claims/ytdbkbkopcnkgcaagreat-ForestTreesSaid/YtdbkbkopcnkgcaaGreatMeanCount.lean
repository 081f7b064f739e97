import Derived.Test.YtdbkbkopcnkgcaaGreatMeanN
import Derived.Test.YtdbkbkopcnkgcaaGreatMeanQ
open Go Go.RowKit
namespace Go.Proofs.YtdbkbkopcnkgcaaGreat

/-! ### mean.Count -/
set_option maxRecDepth 100000 in
set_option maxHeartbeats 1600000 in
theorem mcount_any (F : Nat → Prop) {g : Gram} {x : List Int} {A : Option Addr} {c : Nat} {B : Option Addr} {d : Nat} (hv : Valid g) (hx12 : x.length ≤ 12) (w : World) (hc : g.rules.length ≤ c) (ho : OkWord g x)
    (hr : IsSl Elt.rule F w (.slice A g.rules.length c) g.rules) (hx : IsSl Elt.int F w (.slice B x.length d) x) :
    Calls Tryz.prog 8 #[gramV g (.slice A g.rules.length c), .slice B x.length d] w fun e w' => ∃ M, IsM g x M ∧ e = .returned (.tuple #[.int .i64 (cntU g x M), .int .i64 0]) ∧ Below w.heap.size w w' := by
  have hb0 := below1 w (.cells #[.int .i64 g.terms, .int .i64 g.nons, .int .i64 g.start, .slice A g.rules.length c] 25)
  have g0 := heap_alloc_new w (.cells #[.int .i64 g.terms, .int .i64 g.nons, .int .i64 g.start, .slice A g.rules.length c] 25)
  have hck := check_ok F g A _ c x B _ d _ (hr.below hb0) hv hc (hx.below hb0) ho hx12
  have k0 := blk_cell g0 (i := 0) rfl
  have k1 := blk_cell g0 (i := 1) rfl
  have k2 := blk_cell g0 (i := 2) rfl
  have k3 := blk_cell g0 (i := 3) rfl
  unfold gramV at hck ⊢
  go_enter Tryz.func8, Tryz.ntmps8
  go_wp2_with fail
  refine hck.mono ?_
  rintro e1 w1 ⟨rfl, hb1⟩
  have g1 := blk_below hb1 (blk_lt g0) g0
  have hw1 := hb0.trans (hb1.mono hb0.size)
  have hde := derived_any F g A _ c x B _ d w1 (hr.below hw1) hv (hx.below hw1) hx12
  unfold gramV at hde
  clear hck k0 k1 k2 k3 g0 hb0 hb1 hr hx
  have k0 := blk_cell g1 (i := 0) rfl
  have k1 := blk_cell g1 (i := 1) rfl
  have k2 := blk_cell g1 (i := 2) rfl
  have k3 := blk_cell g1 (i := 3) rfl
  go_wp2_with fail
  refine hde.mono ?_
  rintro e2 w2 ⟨be, rfl, hb2, M, C, p, q, hE, hsh, hso, hcl⟩
  have hIM : IsM g x M := ⟨hsh, hso, hcl⟩
  have g2 := blk_below hb2 (blk_lt g1) g1
  have hw2 := hw1.trans (hb2.mono hw1.size)
  have his := is_any _ be g x M A _ c B _ d C p q ⟨false, g.start⟩ 0 x.length w2 hE hx12 hv.s0 (fun _ => by have := hsh.len; have := hv.s1; show g.start < _; omega) hsh.row hsh.small (by omega) hx12
  unfold symV at his
  have hbit : (aftTo x M ⟨false, g.start⟩ (2 ^ 0) (x.length + 1)).testBit x.length = (entry M g.start 0).testBit x.length := by
    refine Bool.eq_iff_iff.2 ?_
    rw [aftTo_bit]
    constructor
    · rintro ⟨i, _, h2, h3⟩
      rw [Nat.testBit_two_pow] at h2
      have : 0 = i := by simpa using h2
      subst this
      rwa [aft1_non] at h3
    · intro h
      exact ⟨0, by omega, by simp, by rwa [aft1_non]⟩
  clear hde k0 k1 k2 k3 g1 hb2 hw1
  have k2 := blk_cell g2 (i := 2) rfl
  rw [hbit] at his
  simp only [Int.natCast_zero] at his
  have hcnt0 : (entry M g.start 0).testBit x.length = false → cntU g x M = 0 := fun h => by unfold cntU; rw [if_neg (by rw [h]; decide)]
  have hcnt1 : (entry M g.start 0).testBit x.length = true → cntU g x M = valW (WU g x M) (rootF g x) := fun h => by unfold cntU; rw [if_pos h]
  cases hb : (entry M g.start 0).testBit x.length
  · rw [hb] at his
    have HC := Lib.hid (hcnt0 hb)
    have HI := Lib.hid his
    clear hcnt0 hcnt1 hbit his hb
    go_wp2_with fail
    refine HI.out.mono ?_
    rintro e3 w3 ⟨rfl, hb3⟩
    go_wp2_with fail
    go_ret2
    exact ⟨M, hIM, by rw [HC.out]; rfl, hw2.trans (hb3.mono hw2.size)⟩
  · rw [hb] at his
    have HC := Lib.hid (hcnt1 hb)
    have HI := Lib.hid his
    clear hcnt0 hcnt1 hbit his hb
    have hm1 : ∀ W : World, (Instr.makeMap 72 none).run Tryz.prog W = .ok (.map (some W.heap.size)) (W.alloc (.map #[] 0)) := fun _ => rfl
    have hm2 : ∀ W : World, (Instr.makeMap 73 none).run Tryz.prog W = .ok (.map (some W.heap.size)) (W.alloc (.map #[] 0)) := fun _ => rfl
    go_wp2_with fail
    refine HI.out.mono ?_
    rintro e3 w3 ⟨rfl, hb3⟩
    have g3 := blk_below hb3 (blk_lt g2) g2
    have hw3 := hw2.trans (hb3.mono hw2.size)
    have hE3 : IsEnds (fun b => b < w3.heap.size) w3 be g x M A g.rules.length c B x.length d C p q := by
      have h := ends_keep (w' := w3) hE (fun b _ hlt => hb3.block b hlt) hb3.size
      exact ⟨cell_lt h.c0, h.c0, h.c1, h.c2, h.c3, h.c4, h.c5, h.rules.old.weak fun _ h => h.2, h.word.old.weak fun _ h => h.2, h.mat.old.weak fun _ h => h.2⟩
    have hb4 := below3 w3 (.map #[] 0) (.map #[] 0) (.cells #[.pointer (some ⟨be, 0, none⟩), .map (some w3.heap.size), .map (some (w3.heap.size + 1))] 75)
    have hs4 : (((w3.alloc (.map #[] 0)).alloc (.map #[] 0)).alloc (.cells #[.pointer (some ⟨be, 0, none⟩), .map (some w3.heap.size), .map (some (w3.heap.size + 1))] 75)).heap.size = w3.heap.size + 3 := by rw [World.size_alloc, World.size_alloc, World.size_alloc]
    have hct : CtAt (((w3.alloc (.map #[] 0)).alloc (.map #[] 0)).alloc (.cells #[.pointer (some ⟨be, 0, none⟩), .map (some w3.heap.size), .map (some (w3.heap.size + 1))] 75)) (w3.heap.size + 1 + 1) w3.heap.size (w3.heap.size + 1) be ⟨[], []⟩ := by
      refine ⟨blk_new' (by rw [World.size_alloc, World.size_alloc]) _, ?_, ?_, by omega⟩
      · have h := IsMap.new mpartV (Value.int .i64) w3
        exact (h.below (below1 _ _)).below (below1 _ _)
      · have h := IsMap.new mpartV Value.bool (w3.alloc (.map #[] 0))
        rw [World.size_alloc] at h
        exact h.below (below1 _ _)
    have hlow := sound_low hIM.2.1
    have hshort : Short x M := sound_short hIM.2.1 (entry_neg M)
    have hcn := count_any (Fe := fun b => b < w3.heap.size) (lo := w3.heap.size) (rd := w3.heap.size) (ro := w3.heap.size + 1) (be := be) (bc := w3.heap.size + 1 + 1) (A := A) (n := g.rules.length) (c := c) (B := B) (m := x.length) (d := d) (C := C) (p := p) (q := q) hv hx12 hsh hshort hlow rfl (fun b hb => ⟨hb, by omega, by omega⟩) ((partsM g x).length + 1)
      ⟨g.start, 0, x.length⟩ ⟨[], []⟩ _ ⟨hv.s0, hv.s1, Nat.zero_le _, Nat.le_refl _⟩ ⟨by simp, (by intro z hz; cases hz), (by intro z hz; cases hz), (by intro z hz; cases hz)⟩ (by simp) ⟨ends_keep hE3 (fun b hb _ => hb4.block b hb) hb4.size, hb4.size⟩ hct
    rw [cnt_root hv hlow, ← HC.out] at hcn
    unfold mpartV at hcn
    simp only [Int.natCast_zero] at hcn
    have g4 := blk_below hb4 (blk_lt g3) g3
    have hw4 := hw3.trans (hb4.mono hw3.size)
    have k2 := blk_cell g4 (i := 2) rfl
    have HCN := Lib.hid hcn
    have h3s := hw3.size
    clear hcn hct hE3 hE HC HI g2 g3 g4 hb4 hb3
    go_wp2_with fail
    refine HCN.out.mono ?_
    rintro e5 w5 ⟨rfl, -, ha5⟩
    go_wp2_with fail
    go_ret2
    exact ⟨M, hIM, rfl, ((Away.ofBelow (F := fun _ => False) hw4).trans (ha5.mono hw4.size fun b hb h => by rcases h with h | h <;> omega)).below fun _ _ h => h⟩
end Go.Proofs.YtdbkbkopcnkgcaaGreat
