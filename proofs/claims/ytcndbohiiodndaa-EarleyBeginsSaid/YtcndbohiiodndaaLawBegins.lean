import Derived.Test.YtcndbohiiodndaaErlTwo
open Go Go.RowKit
namespace Go.Proofs.Ytcndbohiiodndaa

/-- the beginning of a slice -/
theorem run_pre_sl {P : Program} {t E : TypeId} (ht : P.underlying t = some (.slice E)) {size : Nat} (hz : ∀ w, (sizeOf E).run P w = .ok size w) {α : Type} {d : Elt α} (hd : d.sz = size) {F : Nat → Prop} {w0 : World} {A : Option Addr} {n c : Nat} {xs : List α} (h : IsSl d F w0 (.slice A n c) xs) (hc : n ≤ c) (j : Nat) (hj : j ≤ n) :
    ∃ A', (∀ w : World, (Instr.slice t (.slice A n c) none (some (.int .i64 j)) none).run P w = .ok (.slice A' j c) w) ∧ IsSl d F w0 (.slice A' j c) (xs.take j) := by
  obtain ⟨A', h1, h2⟩ := run_part_sl ht hz hd h hc 0 j (Nat.zero_le _) hj
  refine ⟨A', fun w => ?_, by simpa using h2⟩
  have h3 := h1 w
  have hjc : j ≤ c := by omega
  simp [Instr.slice, run_underlying ht, hz, Instr.sliceBounds, Instr.sliceBound, asIntOf, hjc] at h3 ⊢
  exact h3

/-- the sets of the beginning -/
theorem setsOf_begin {g : Gram} {x : List Int} {k : Nat} (hk : k ≤ x.length) : (setsOf g x).take (k + 1) = setsOf g (x.take k) := by
  unfold setsOf
  rw [← List.map_take, List.take_range, List.length_take, Nat.min_eq_left hk, Nat.min_eq_left (by omega)]
  apply List.map_congr_left
  intro j hj
  rw [fill_begin hk j (by simp at hj; omega)]

set_option maxRecDepth 100000 in
set_option maxHeartbeats 4000000 in
theorem earleyBegins_any (F F2 : Nat → Prop) (l l2 : List Int) (A : Option Addr) (n c : Nat) (A2 : Option Addr) (n2 c2 : Nat) (kk : Int) (w : World) (hl : IsSl Elt.int F w (.slice A n c) l) (hl2 : IsSl Elt.int F2 w (.slice A2 n2 c2) l2) (hnc : n ≤ c) :
    Calls Try.prog 13 #[.slice A n c, .slice A2 n2 c2, .int .i64 kk] w fun e w' => e = .returned (.bool true) ∧ Below w.heap.size w w' := by
  go_enter Try.func13, Try.ntmps13
  go_wp2_with fail
  refine (made_any F F2 l l2 A n c A2 n2 c2 8 w hl hl2 hnc (by decide)).mono ?_
  rintro e1 w1 ⟨g, A', c', x, C, cx, rfl, hM⟩
  have hv := hM.small.valid
  have hx8 := hM.most
  have hcap := hM.cap
  have hcx := hM.capx
  have hok : OkWord g x := hM.terms
  have hbA := below1 w1 (.cells #[.int .i64 g.terms, .int .i64 g.nons, .int .i64 g.start, .slice A' g.rules.length c'] 25)
  have hgb := heap_alloc_new w1 (.cells #[.int .i64 g.terms, .int .i64 g.nons, .int .i64 g.start, .slice A' g.rules.length c'] 25)
  have hrA := hM.rules.below hbA
  have hxA := hM.word.below hbA
  have hwA := hM.below.trans (hbA.mono hM.below.size)
  unfold gramV
  clear hM hl hl2 hbA
  go_wp2_with fail
  generalize w1.alloc (.cells #[.int .i64 g.terms, .int .i64 g.nons, .int .i64 g.start, .slice A' g.rules.length c'] 25) = WA at hgb hrA hxA hwA ⊢
  refine (below_int kk ((x.length : Int) + 1) _ (by omega)).mono ?_
  rintro e2 w2 ⟨rfl, rfl⟩
  have hi0 := Int.emod_nonneg kk (show (x.length : Int) + 1 ≠ 0 by omega)
  have hi1 := Int.emod_lt_of_pos kk (show 0 < (x.length : Int) + 1 by omega)
  generalize kk % ((x.length : Int) + 1) = i0 at hi0 hi1 ⊢
  obtain ⟨k, rfl⟩ := Int.eq_ofNat_of_zero_le hi0
  have hkx : k ≤ x.length := by omega
  clear hi0 hi1
  have hp1 := esets_any _ g x A' c' C cx w2 hrA hxA hv hcap hok (by omega)
  obtain ⟨B2, hsl, hxp⟩ := run_pre_sl (P := Try.prog) Try.underlying22 Try.sizeInt rfl hxA hcx k hkx
  unfold gramV at hp1
  have hgl := blk_lt hgb
  have k0 := blk_cell hgb (i := 0) rfl
  have k1 := blk_cell hgb (i := 1) rfl
  have k2 := blk_cell hgb (i := 2) rfl
  have k3 := blk_cell hgb (i := 3) rfl
  go_wp2_with fail
  refine hp1.mono ?_
  rintro e4 w4 ⟨Q, cq, rfl, hb4, hcq, hsa⟩
  have hg4 := blk_below hb4 hgl hgb
  have hr4 := hrA.below hb4
  have hxp4 := hxp.below hb4
  have hw4 := hwA.trans (hb4.mono hwA.size)
  have hlk : (x.take k).length = k := by rw [List.length_take]; omega
  have hokp : OkWord g (x.take k) := fun t ht => hok t (List.mem_of_mem_take ht)
  have hp2 : ∀ W : World, Below w4.heap.size w4 W → Calls Try.prog 32 #[gramV g (.slice A' g.rules.length c'), .slice B2 k cx] W fun e w' => ∃ Q2 cq2, e = .returned (.tuple #[.slice Q2 (k + 1) cq2, .int .i64 0]) ∧ Below W.heap.size W w' ∧ k + 1 ≤ cq2 ∧ IsSl Elt.eitem.sl (fun b => W.heap.size ≤ b) w' (.slice Q2 (k + 1) cq2) (setsOf g (x.take k)) := fun W hW => by
    have := esets_any _ g (x.take k) A' c' B2 cx W (hr4.below hW) (by rw [hlk]; exact hxp4.below hW) hv hcap hokp (by rw [hlk]; omega)
    unfold SetsEnd at this
    simp only [hlk] at this
    exact this
  unfold gramV at hp2
  have HP2 := Lib.hid hp2
  have hfin := setsOf_begin (g := g) hkx
  have HFIN := Lib.hid hfin
  have HW4 := Lib.hid hw4
  have HSA := Lib.hid hsa
  clear hp1 hp2 hxp hxp4 hrA hxA hr4 hokp hok hlk hfin hw4 hsa k0 k1 k2 k3 hwA hb4 hgb
  have k0 := blk_cell hg4 (i := 0) rfl
  have k1 := blk_cell hg4 (i := 1) rfl
  have k2 := blk_cell hg4 (i := 2) rfl
  have k3 := blk_cell hg4 (i := 3) rfl
  go_wp2_with fail
  go_cut [10, 11] (fun s10 s11 wx => ∃ Q2 cq2, s10 = .slice Q2 (k + 1) cq2 ∧ s11 = .int .i64 0 ∧ Below w4.heap.size w4 wx ∧ IsSl Elt.eitem.sl (fun b => w4.heap.size ≤ b) wx (.slice Q2 (k + 1) cq2) (setsOf g (x.take k)))
  case first =>
    go_region_law (first | (refine step_call rfl 32 Try.f32 Try.func32 (by kernel_rfl) (by kernel_rfl) [_, _] _ rfl [.agg #[.int .i64 g.terms, .int .i64 g.nons, .int .i64 g.start, .slice A' g.rules.length c'], .slice B2 k cx] rfl _ (HP2.out _ (Below.refl _ _).drew) ?_; rintro e5 w5 ⟨Q2, cq2, rfl, hb5, hcq2, hs5⟩; refine ⟨_, rfl, ?_⟩))
    all_goals
      go_wp2_with fail
      go_meet
      exact ⟨Q2, cq2, rfl, rfl, (Below.refl _ w4).drew.trans hb5, hs5⟩
  case rest =>
  obtain ⟨Q2, cq2, rfl, rfl, hb5, hs5⟩ := hcut
  have hset := sets_any wc
  clear hsl k0 k1 k2 k3 hg4 HP2
  go_wp2_with fail
  refine hset.mono ?_
  rintro e6 w6 ⟨rfl, hb6⟩
  obtain ⟨Q3, hsq, hsq2⟩ := run_pre_sl (P := Try.prog) (size := 1) Try.underlying53 Try.sizeOf56 rfl ((HSA.out.below hb5).below hb6) hcq (k + 1) (by omega)
  rw [HFIN.out] at hsq2
  simp only [Int.natCast_add, Int.natCast_one] at hsq
  have heq := equal_sets _ _ _ _ _ _ _ _ _ w6 hsq2 (hs5.below hb6)
  have hw6 := (HW4.out.trans (hb5.mono HW4.out.size)).trans (hb6.mono (Nat.le_trans HW4.out.size hb5.size))
  have hk8 : k ≤ 8 := by omega
  clear hset hs5 hb5 hb6 hsq2
  go_wp2_with fail
  refine heq.mono ?_
  rintro e7 w7 ⟨rfl, hb7⟩
  go_wp2_with fail
  go_ret
  exact ⟨rfl, hw6.trans (hb7.mono hw6.size)⟩
end Go.Proofs.Ytcndbohiiodndaa
