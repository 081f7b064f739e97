import Derived.Test.YtdbkbkopcnkgcaaMoreC
import Derived.Test.YtdbkbkopcnkgcaaLawJoined
import Derived.Test.YtdbkbkopcnkgcaaLawNamed
open Go Go.RowKit
namespace Go.Proofs.Ytdbkbkopcnkgcaa

/-! ### the law MeanMore, over the fact means() -/
theorem fewer_any (a b : Int) (w : World) : Calls Try.prog 41 #[.int .i64 a, .int .i64 b] w fun e w' => e = .returned (.bool (decide (b = -1 ∨ (a ≠ -1 ∧ a ≤ b)))) ∧ w' = w := by
  obtain ⟨res, hres⟩ : ∃ res, res = decide (b = -1 ∨ (a ≠ -1 ∧ a ≤ b)) := ⟨_, rfl⟩
  rw [← hres]
  by_cases h1 : b = -1
  · have hd : res = true := by rw [hres]; simp [h1]
    have z1 : (b == -1) = true := by simpa using h1
    subst hd
    clear h1 hres
    go_enter Try.func41, Try.ntmps41
    go_wp2_with fail
    go_ret
    exact ⟨rfl, rfl⟩
  · have z1 : (b == -1) = false := by simpa using h1
    by_cases h2 : a = -1
    · have hd : res = false := by rw [hres]; simp [h1, h2]
      have z2 : (a != -1) = false := by simpa using h2
      subst hd
      clear h1 h2 hres
      go_enter Try.func41, Try.ntmps41
      go_wp2_with fail
      go_ret
      exact ⟨rfl, rfl⟩
    · have z2 : (a != -1) = true := by simpa using h2
      by_cases h3 : a ≤ b
      · have hd : res = true := by rw [hres]; simp [h2, h3]
        have z3 : decide (a ≤ b) = true := by simpa using h3
        subst hd
        clear h1 h2 h3 hres
        go_enter Try.func41, Try.ntmps41
        go_wp2_with fail
        go_ret
        exact ⟨rfl, rfl⟩
      · have hd : res = false := by rw [hres]; simp [h1, h3]
        have z3 : decide (a ≤ b) = false := by simpa using h3
        subst hd
        clear h1 h2 h3 hres
        go_enter Try.func41, Try.ntmps41
        go_wp2_with fail
        go_ret
        exact ⟨rfl, rfl⟩

set_option maxRecDepth 100000 in
set_option maxHeartbeats 1600000 in
/-- Count of a grammar whose last rule is there already -/
theorem mcount_there (F : Nat → Prop) {g : Gram} {l : List Rule} {A : Option Addr} {c : Nat} {B : Option Addr} {m d : Nat} (hd : DupG g l) (w : World) (hc : g.rules.length ≤ c) (hr : IsSl Elt.rule F w (.slice A g.rules.length c) g.rules) :
    Calls Try.prog 32 #[gramV g (.slice A g.rules.length c), .slice B m d] w fun e w' => e = .returned (.tuple #[.int .i64 0, .int .i64 6]) ∧ Below w.heap.size w w' := by
  have hb0 := below1 w (.cells #[.int .i64 g.terms, .int .i64 g.nons, .int .i64 g.start, .slice A g.rules.length c] 25)
  have g0 := heap_alloc_new w (.cells #[.int .i64 g.terms, .int .i64 g.nons, .int .i64 g.start, .slice A g.rules.length c] 25)
  have hck := check_there F g A _ c B m d _ (hr.below hb0) l hd hc
  have k0 := blk_cell g0 (i := 0) rfl
  have k1 := blk_cell g0 (i := 1) rfl
  have k2 := blk_cell g0 (i := 2) rfl
  have k3 := blk_cell g0 (i := 3) rfl
  unfold gramV at hck ⊢
  clear hr hd
  go_enter Try.func32, Try.ntmps32
  go_wp2_with fail
  refine hck.mono ?_
  rintro e1 w1 ⟨rfl, hb1⟩
  have hw1 := hb0.trans (hb1.mono hb0.size)
  clear hck k0 k1 k2 k3
  go_wp2_with fail
  go_ret2
  exact ⟨rfl, hw1⟩

def fixS (g : Gram) (y : Sym) : Sym := if y.t = true then ⟨true, y.n % g.terms⟩ else ⟨false, y.n % g.nons⟩
def fixR (g : Gram) (r : Rule) : Rule := ⟨r.l % g.nons, r.r.map (fixS g)⟩
theorem fix_ok {g : Gram} (hv : Valid g) {r : Rule} (h4 : r.r.length ≤ 4) : OkRule g (fixR g r) := by
  have hn := hv.n1
  have ht := hv.t1
  refine ⟨Int.emod_nonneg _ (by omega), Int.emod_lt_of_pos _ (by omega), by show (r.r.map (fixS g)).length ≤ 4; rw [List.length_map]; exact h4, fun y hy => ?_⟩
  obtain ⟨z, _, rfl⟩ := List.mem_map.1 hy
  unfold fixS
  by_cases c : z.t = true
  · rw [if_pos c]
    exact ⟨Int.emod_nonneg _ (by omega), fun _ => Int.emod_lt_of_pos _ (by omega), fun h => (by cases h)⟩
  · rw [if_neg c]
    exact ⟨Int.emod_nonneg _ (by omega), fun h => (by cases h), fun _ => Int.emod_lt_of_pos _ (by omega)⟩
theorem set_last {α : Type} (l : List α) (a b : α) : (l ++ [a]).set l.length b = l ++ [b] := by
  rw [List.set_append_right _ _ (Nat.le_refl _), Nat.sub_self]
  rfl

set_option maxRecDepth 100000 in
set_option maxHeartbeats 12800000 in
theorem meanMore_any (F F2 F3 : Nat → Prop) (l l2 l3 : List Int) (A : Option Addr) (n c : Nat) (A2 : Option Addr) (n2 c2' : Nat) (A3 : Option Addr) (n3 c3 : Nat) (w : World) (hl : IsSl Elt.int F w (.slice A n c) l) (hl2 : IsSl Elt.int F2 w (.slice A2 n2 c2') l2) (hl3 : IsSl Elt.int F3 w (.slice A3 n3 c3) l3) (hnc : n ≤ c) (hnc3 : n3 ≤ c3) :
    Calls Try.prog 8 #[.slice A n c, .slice A2 n2 c2', .slice A3 n3 c3] w fun e w' => e = .returned (.bool true) ∧ Below w.heap.size w w' := by
  obtain ⟨ir, hir, hr0, hr2, hr3⟩ := info_parts Try.infoRule
  go_enter Try.func8, Try.ntmps8
  go_wp2_with fail
  refine (made_any F F2 l l2 A n c A2 n2 c2' 5 _ hl hl2 hnc (by decide)).mono ?_
  rintro e1 w1 ⟨g, A', c', x, C, cx, rfl, hM⟩
  have hv := hM.small.valid
  have hx5 := hM.most
  have hcap := hM.cap
  have hcx := hM.capx
  have hr8 := hM.small.r8
  have hr1 := hM.small.r1
  have hok : OkWord g x := hM.terms
  have hw1 := hM.below
  have hl31 := hl3.below hw1
  have hbA := below1 w1 (.cells #[.int .i64 g.terms, .int .i64 g.nons, .int .i64 g.start, .slice A' g.rules.length c'] 25)
  have gg := heap_alloc_new w1 (.cells #[.int .i64 g.terms, .int .i64 g.nons, .int .i64 g.start, .slice A' g.rules.length c'] 25)
  have hrA := (hM.rules.below hbA).weak (G := fun _ => True) fun _ _ => trivial
  have hxA := (hM.word.below hbA).weak (G := fun _ => True) fun _ _ => trivial
  have hlA := hl31.below hbA
  have hwA := hw1.trans (hbA.mono hw1.size)
  unfold gramV
  clear hM hl hl2 hl3 hl31 hw1 hbA
  have hcp := copyOf_dist _ g A' c' _ hrA hv
  have k0 := blk_cell gg (i := 0) rfl
  have k1 := blk_cell gg (i := 1) rfl
  have k2 := blk_cell gg (i := 2) rfl
  have k3 := blk_cell gg (i := 3) rfl
  unfold gramV at hcp
  go_wp2_with fail
  generalize w1.alloc (.cells #[.int .i64 g.terms, .int .i64 g.nons, .int .i64 g.start, .slice A' g.rules.length c'] 25) = w3 at hwA gg hrA hxA hlA hcp k0 k1 k2 k3 ⊢
  generalize w1.heap.size = bg at gg k0 k1 k2 k3 ⊢
  refine hcp.mono ?_
  rintro e4 w4 ⟨A4, c2, rfl, hb4, hcap4, -, xs, hO, hD⟩
  have hgl := blk_lt gg
  have gg4 := blk_below hb4 hgl gg
  have hr4 := (hrA.old.weak (G := fun b => b < w3.heap.size) fun b hb => hb.2).keep (fun b hb => hb4.block b hb) hb4.size
  have hx4 := (hxA.old.weak (G := fun b => b < w3.heap.size) fun b hb => hb.2).keep (fun b hb => hb4.block b hb) hb4.size
  have hl4 := hlA.below hb4
  have hw4 := hwA.trans (hb4.mono hwA.size)
  have hwz := hwA.size
  have hbX := below1 w4 (.cells #[.int .i64 g.terms, .int .i64 g.nons, .int .i64 g.start, .slice A4 g.rules.length c2] 25)
  have gh := heap_alloc_new w4 (.cells #[.int .i64 g.terms, .int .i64 g.nons, .int .i64 g.start, .slice A4 g.rules.length c2] 25)
  have gg5 := blk_below hbX (blk_lt gg4) gg4
  have hO5 := hO.below hbX
  have hr5 := hr4.below hbX
  have hx5' := hx4.below hbX
  have hl5 := hl4.below hbX
  have hw5 := hw4.trans (hbX.mono hw4.size)
  have hs4 := hb4.size
  clear hcp k0 k1 k2 k3 hO gg hrA hxA hlA hwA gg4 hr4 hx4 hl4 hw4 hbX hb4
  go_wp2_with fail
  generalize w4.alloc (.cells #[.int .i64 g.terms, .int .i64 g.nons, .int .i64 g.start, .slice A4 g.rules.length c2] 25) = w5 at gh gg5 hO5 hr5 hx5' hl5 hw5 ⊢
  generalize hbh : w4.heap.size = bh at gh hs4 ⊢
  clear hbh
  obtain ⟨nr, hnr⟩ : ∃ nr, nr = g.rules.length := ⟨_, rfl⟩
  have HNR := Lib.hid hnr
  rw [← hnr] at hO5 gh hr8 hr1
  clear hnr
  have hgr := grammar_any F3 l3 A3 n3 c3 w5.drew (hl5.below ((Below.refl _ _).drew)) hnc3
  unfold gramV at hgr
  have HGR := Lib.hid hgr
  have HO5 := Lib.hid hO5
  have HDI := Lib.hid hD
  have HV := Lib.hid hv
  have HOKW := Lib.hid hok
  have HR5 := Lib.hid hr5
  have HX5 := Lib.hid hx5'
  have hbhl := blk_lt gh
  have hgl5 : bg < w3.heap.size := hgl
  have hsb5 : w3.heap.size + 3 ≤ w5.heap.size := by
    obtain ⟨b, cap, _, h1, h2⟩ := hO5.own.form (by rw [← HNR.out]; exact hr1)
    omega
  clear hgr hO5 hD hv hok hr5 hx5' hl5
  have m3 := blk_cell gh (i := 3) rfl
  have hS0 : w5.drew.heap[bh]? = some (.cells #[.int .i64 g.terms, .int .i64 g.nons, .int .i64 g.start, .slice A4 nr c2] 25 (0, 0)) := gh
  go_wp2_with fail
  refine wp_region_any (by kernel_rfl) ?_
  change wpAny _ _ _ _ _ _ _ (World.drew _)
  refine wpAny_take (i := 0) (v := ?_) rfl (by kernel_rfl) (by kernel_rfl) (by kernel_rfl) (fun _ _ _ h => h) (Or.inl ⟨by go_simp, ?_⟩) ?_
  rotate_left
  · (intro w'; go_simp; first | done | with_reducible rfl)
  refine wpAny_take (i := 2) (v := ?_) rfl (by kernel_rfl) (by kernel_rfl) (by kernel_rfl) (fun _ _ _ h => h) (Or.inl ⟨by go_simp, ?_⟩) ?_
  rotate_left
  · (intro w'; go_simp; first | done | with_reducible rfl)
  refine wpAny_of_D (S := fun w' => w'.heap[bh]? = some (.cells #[.int .i64 g.terms, .int .i64 g.nons, .int .i64 g.start, .slice A4 nr c2] 25 (0, 0))) (dep := 10) _ _ _ _ ?_
  refine wpAnyD_load (i := 1) (v := .slice A4 nr c2) [8, 10] rfl (by kernel_rfl) (by kernel_rfl) (by kernel_rfl) (by kernel_rfl) (by kernel_rfl) (by kernel_rfl) (by kernel_rfl) (fun _ _ _ h => h) (by go_simp) ?_ hS0 ?_
  · (intro w' hS; have z0 := blk_cell hS (i := 3) rfl; go_simp)
  refine wpAnyD_each (rs := [3]) (by kernel_rfl) (by simp) ?_
  refine EachD.cons (i := 3) (o := _) rfl (fun KK hKK => ?_) EachD.nil
  simp only [List.getElem_toArray, List.getElem_cons_succ, List.getElem_cons_zero]
  refine step_call rfl 40 Try.f40 Try.func40 (by kernel_rfl) (by kernel_rfl) [.tmp 26] #[22] (by rfl) [.slice A3 n3 c3] (by kernel_rfl) _ HGR.out ?_
  rintro e6 w6 ⟨g3, A5, c5, rfl, hsm3, hb6, hcap5, hsl3, base3, xs3, hbs3, hO3⟩
  refine ⟨_, rfl, ?_⟩
  have gh6 := blk_below hb6 hbhl hS0
  try go_simp
  refine hKK _ _ (fun _ => gh6) ?_
  clear hKK KK
  obtain ⟨b5, cap5, hA5, hb51, hb52⟩ := hO3.own.form hsm3.r1
  injection hA5 with hA5 hA52 hA53
  subst hA5
  clear hA52 hA53
  have hq4 := (hsm3.valid.ok _ (List.getElem_mem hsm3.r1)).len
  obtain ⟨h1, Aq, cq, h2, hoq⟩ := hO3.at_ 0 hsm3.r1
  have s0 := hO3.own.cells (g := b5) rfl _ _ h1
  have s1 := hO3.own.cells (g := b5) rfl _ _ h2
  rw [add_lit0] at s0 s1
  simp only [Nat.zero_mul, Nat.zero_add] at s0 s1
  have hg3l := hsm3.r1
  have hg3p : 0 < g3.rules.length := hsm3.r1
  generalize g3.rules[0] = r0 at s0 s1 hoq hq4 h1 h2
  obtain ⟨m0, hm0⟩ : ∃ m, m = r0.r.length := ⟨_, rfl⟩
  rw [← hm0] at s1 hoq hq4
  have HM0 := Lib.hid hm0
  have hfd : ∀ w : World, (Instr.field 25 (.agg #[.int .i64 g3.terms, .int .i64 g3.nons, .int .i64 g3.start, .slice (some ⟨b5, 0, none⟩) g3.rules.length c5]) 3).run Try.prog w = .ok (.slice (some ⟨b5, 0, none⟩) g3.rules.length c5) w := fun _ => rfl
  have hg3z : (0 : Int) < (g3.rules.length : Int) := by omega
  have hO6 := (HO5.out.below ((Below.refl _ _).drew)).below hb6
  have hs6 := hb6.size
  have h5s : w5.drew.heap.size = w5.heap.size := rfl
  have hbase6 : w3.heap.size + 3 ≤ w6.heap.size := by omega
  have hb7 := below1 w6 (.cells #[.int .i64 r0.l, .slice Aq m0 cq] 47)
  have HEND : ∀ (A7 : Option Addr) (c7 : Nat) (w7 : World), w7.ownsRow (w3.heap.size + 3) 47 2 (.slice A7 (nr + 1) c7) (nr + 1) (xs ++ [.int .i64 r0.l, .slice Aq m0 cq]) → (w6.alloc (.cells #[.int .i64 r0.l, .slice Aq m0 cq] 47)).grownBy w7 (Value.slice A4 nr c2).ownBlock → w7.heap[bh]? = some (.cells #[.int .i64 g.terms, .int .i64 g.nons, .int .i64 g.start, .slice A4 nr c2] 25 (0, 0)) ∧ RulesAt (w7.setCell ⟨bh, 3, none⟩ (.slice A7 (nr + 1) c7)) (w3.heap.size + 3) (.slice A7 (nr + 1) c7) (g.rules ++ [r0]) (xs ++ [.int .i64 r0.l, .slice Aq m0 cq]) ∧ (w7.setCell ⟨bh, 3, none⟩ (.slice A7 (nr + 1) c7)).heap[bh]? = some (.cells #[.int .i64 g.terms, .int .i64 g.nons, .int .i64 g.start, .slice A7 (nr + 1) c7] 25 (0, 0)) ∧ Below w3.heap.size w5 (w7.setCell ⟨bh, 3, none⟩ (.slice A7 (nr + 1) c7)) := by
    intro A7 c7 w7 hown hg
    have hO7 := hO6.below hb7
    have gh7 := blk_below hb7 (blk_lt gh6) gh6
    have hsy := own_belowV (hoq.mono_base (show w3.heap.size + 3 ≤ base3 by omega)) hb7
    have hO8 := hO7.snoc (r := r0) (A := Aq) (c := cq) (v' := .slice A7 (nr + 1) c7) (by rw [← HM0.out]; exact hsy) hg (by rw [← HNR.out, ← HM0.out]; exact hown)
    rw [← HM0.out] at hO8
    have gh8 := (hg.block bh (blk_lt gh7) fun e => absurd (own_type hO7.own e.symm gh7) (by decide)).trans gh7
    have hO9 := hO8.poke (i := 3) (u := .slice A7 (nr + 1) c7) gh8 (by decide) (by decide)
    have hdi := dist_snoc (a := .int .i64 r0.l) HO5.out HNR.out.symm (by have := HDI.out; rwa [← HNR.out] at this) (hoq.mono_base (show w5.heap.size ≤ base3 by omega))
    have hob7 := own_base' hO7.own
    refine ⟨gh8, RulesAt.ofOwn hO9 (by rw [List.length_append, ← HNR.out]; exact hdi), heap_set gh8 3 _, ?_⟩
    have h1 : Below w3.heap.size w5 (w6.alloc (.cells #[.int .i64 r0.l, .slice Aq m0 cq] 47)) := ((Below.refl _ _).drew).trans ((hb6.mono (by omega)).trans (hb7.mono (by omega)))
    have h2 : Below w3.heap.size w5 w7 := h1.grown hg (by rw [World.size_alloc]; omega) fun j hj => by have := hob7 j hj; omega
    exact h2.setCell (p := ⟨bh, 3, none⟩) hs4 _
  have HOW6 := Lib.hid hO6.own
  clear hm0 h1 h2 hcap5 hsl3 hb7
  refine wpAnyD_pure (i := 4) (v := ?_) [5, 6, 7, 8, 10] rfl (by kernel_rfl) (by kernel_rfl) (by kernel_rfl) (by kernel_rfl) (by kernel_rfl) (by kernel_rfl) (by kernel_rfl) (fun _ _ _ h => h) (by go_simp) ?_ gh6 ?_
  rotate_left
  · (intro w'; go_simp; first | done | with_reducible rfl)
  refine wpAnyD_pure (i := 5) (v := ?_) [6, 7, 8, 10] rfl (by kernel_rfl) (by kernel_rfl) (by kernel_rfl) (by kernel_rfl) (by kernel_rfl) (by kernel_rfl) (by kernel_rfl) (fun _ _ _ h => h) (by go_simp) ?_ gh6 ?_
  rotate_left
  · (intro w'; go_simp; first | done | with_reducible rfl)
  refine wpAnyD_each (rs := [6]) (by kernel_rfl) (by simp) ?_
  refine EachD.cons (i := 6) (o := _) rfl (fun KK hKK => ?_) EachD.nil
  go_simp
  refine hKK _ _ (fun _ => gh6) ?_
  clear hKK KK
  refine wpAnyD_each (rs := [7]) (by kernel_rfl) (by simp) ?_
  refine EachD.cons (i := 7) (o := _) rfl (fun KK hKK => ?_) EachD.nil
  go_simp
  have hb7 := below1 w6 (.cells #[.int .i64 r0.l, .slice Aq m0 cq] 47)
  have gh7 := blk_below hb7 (blk_lt gh6) gh6
  refine hKK _ _ (fun _ => gh7) ?_
  clear hKK KK
  refine wpAnyD_each (rs := [8]) (by kernel_rfl) (by simp) ?_
  refine EachD.cons (i := 8) (o := _) rfl (fun KK hKK => ?_) EachD.nil
  refine step_append_src _ rfl (.tmp 25) (.tmp 31) 23 rfl (w3.heap.size + 3) 47 ir (.agg #[.int .i64 0, .slice none 0 0]) 2 32 Try.underlying23 hir hr0 hr2 hr3 rfl (by decide) (.slice A4 nr c2) nr xs (by rfl) (by have := own_belowV HOW6.out hb7; rwa [← HNR.out] at this) (some ⟨w6.heap.size, 0, none⟩) 1 1 [.int .i64 r0.l, .slice Aq m0 cq] (by rfl) rfl (fun h => by cases h) (fun a ha j u hj => by injection ha with ha; subst ha; exact cells_new _ _ _ _ _ hj) (by intro u hu; simp at hu; rcases hu with rfl | rfl <;> rfl) (nr + 1) rfl (by unfold maxLen; omega) (by omega) (by rw [World.size_alloc]; omega) ?_
  intro A7 c7 w7 hown7 hg7 hat7
  have hend := HEND A7 c7 w7 hown7 hg7
  obtain ⟨gh8, hend⟩ := hend
  have HE7 := Lib.hid hend
  clear hend hown7 hg7 hat7
  refine hKK _ _ (fun _ => gh8) ?_
  clear hKK KK
  refine wpAnyD_pure (i := 9) (v := ?_) [10] rfl (by kernel_rfl) (by kernel_rfl) (by kernel_rfl) (by kernel_rfl) (by kernel_rfl) (by kernel_rfl) (by kernel_rfl) (fun _ _ _ h => h) (by go_simp) ?_ gh8 ?_
  rotate_left
  · (intro w'; go_simp; first | done | with_reducible rfl)
  refine wpAnyD_each (rs := [10]) (by kernel_rfl) (by simp) ?_
  refine EachD.cons (i := 10) (o := _) rfl (fun KK hKK => ?_) EachD.nil
  have z0 := blk_cell gh8 (i := 3) rfl
  have z1 : w7.frozen? ⟨bh, 3, none⟩ = false := blk_free gh8
  go_simp
  refine hKK _ _ (fun e => Bool.noConfusion (show true = false from e)) ?_
  clear hKK KK
  refine wpAnyD_of _ _ _ _ (by kernel_rfl) ?_
  refine wpAny_done (by kernel_rfl) ?_ _
  obtain ⟨hRA, gh9, hB9⟩ := HE7.out
  generalize w7.setCell ⟨bh, 3, none⟩ (.slice A7 (nr + 1) c7) = WW at hRA gh9 hB9 ⊢
  have hll : (g.rules ++ [r0]).length = nr + 1 := by rw [List.length_append, ← HNR.out]; rfl
  have hcap7 : nr + 1 ≤ c7 := by have h := hRA.own; rw [hll] at h; exact own_cap h
  have hlq : nr < (g.rules ++ [r0]).length := by omega
  obtain ⟨bR, hA, hbRb, c0, A6, c6, hx6, c1, -⟩ := hRA.cellAt (k := nr) hlq
  have hlast : (g.rules ++ [r0])[nr]'hlq = r0 := by simp [HNR.out]
  rw [hlast] at c0 c1 hx6
  rw [← HM0.out] at c1 hx6
  subst hA
  have hsetl : ∀ a b : Rule, (g.rules ++ [a]).set nr b = g.rules ++ [b] := fun a b => by rw [HNR.out]; exact set_last _ _ _
  have hleft := hRA.left hlq (r0.l % g.nons)
  rw [hlast, hsetl] at hleft
  have ggW := (hB9.block bg hgl5).trans gg5
  have hRb : ∀ {w : World} {b : Nat} {cs : Array Value} {T : TypeId} {l : List Rule} {xs : List Value} {n c : Nat}, RulesAt w (w3.heap.size + 3) (.slice (some ⟨bR, 0, none⟩) n c) l xs → w.heap[b]? = some (.cells cs T (0, 0)) → T ≠ 47 → b ≠ bR := fun h1 h2 h3 e => h3 (own_type h1.own (by rw [e]; rfl) h2)
  have hbhR := hRb hRA gh9 (by decide)
  have fR : WW.frozen? ⟨bR, nr * 2, none⟩ = false := by
    obtain ⟨cs, h1⟩ : ∃ cs, WW.heap[bR]? = some (.cells cs 47 (0, 0)) := by
      rcases hRA.own.2 with ⟨h1, _⟩ | ⟨g', cap, cur, h1, _, h3, _⟩
      · cases h1
      · injection h1 with h1
        injection h1 with h1
        injection h1 with h1
        subst h1
        exact ⟨cur, h3⟩
    exact blk_free h1
  have hn1 := HV.out.n1
  have hn10 := HV.out.n10
  have ht1 := HV.out.t1
  have ht8 := HV.out.t8
  have hsub : IntKind.i64.wrap (((nr + 1 : Nat) : Int) - 1) = (nr : Int) := by
    have e : ((nr + 1 : Nat) : Int) - 1 = (nr : Int) := by omega
    rw [e]
    exact IntWalk.i64_in _ (by omega)
  have hnz : (nr : Int) < ((nr + 1 : Nat) : Int) := by omega
  have q3 := blk_cell gh9 (i := 3) rfl
  have p1 := blk_cell ggW (i := 1) rfl
  have HL := Lib.hid hleft
  have hR10 : RulesAt ((WW.setCell ⟨bR, nr * 2, none⟩ (.int .i64 (r0.l % g.nons))).drew) (w3.heap.size + 3) (.slice (some ⟨bR, 0, none⟩) (nr + 1) c7) (g.rules ++ [⟨r0.l % g.nons, mapQ (fixS g) r0.r 0⟩]) ((xs ++ [Value.int .i64 r0.l, Value.slice Aq m0 cq]).set (nr * 2) (.int .i64 (r0.l % g.nons))) := by
    rw [mapQ_zero]
    exact hleft.keep fun b hb hl => rfl
  have gh10 : ((WW.setCell ⟨bR, nr * 2, none⟩ (.int .i64 (r0.l % g.nons))).drew).heap[bh]? = some (.cells #[.int .i64 g.terms, .int .i64 g.nons, .int .i64 g.start, .slice (some ⟨bR, 0, none⟩) (nr + 1) c7] 25 (0, 0)) := (heap_set_ne hbhR _ _).trans gh9
  have hB10 : Below w3.heap.size w5 ((WW.setCell ⟨bR, nr * 2, none⟩ (.int .i64 (r0.l % g.nons))).drew) := (hB9.setCell (p := ⟨bR, nr * 2, none⟩) (by show w3.heap.size ≤ bR; omega) _).drew
  have hx10 : ((xs ++ [Value.int .i64 r0.l, Value.slice Aq m0 cq]).set (nr * 2) (.int .i64 (r0.l % g.nons)))[nr * 2 + 1]? = some (.slice A6 m0 c6) := by
    rw [List.getElem?_set, if_neg (by omega)]; exact hx6
  have HR10 := Lib.hid hR10
  clear hRA hleft hR10 HE7 HL HEND HOW6 hO6 hbhl HGR hx6 c1
  go_wp2_with fail
  refine wp_region_any (by kernel_rfl) ?_
  change wpAny _ _ _ _ _ _ _ (World.drew _)
  refine wpAny_take (i := 0) (v := ?_) rfl (by kernel_rfl) (by kernel_rfl) (by kernel_rfl) (fun _ _ _ h => h) (Or.inl ⟨by go_simp, ?_⟩) ?_
  rotate_left
  · (intro w'; go_simp; first | done | with_reducible rfl)
  refine wpAny_take (i := 1) (v := ?_) rfl (by kernel_rfl) (by kernel_rfl) (by kernel_rfl) (fun _ _ _ h => h) (Or.inl ⟨by go_simp, ?_⟩) ?_
  rotate_left
  · (intro w'; go_simp; first | done | with_reducible rfl)
  refine wpAny_take (i := 2) (v := ?_) rfl (by kernel_rfl) (by kernel_rfl) (by kernel_rfl) (fun _ _ _ h => h) (Or.inl ⟨by go_simp, ?_⟩) ?_
  rotate_left
  · (intro w'; go_simp; first | done | with_reducible rfl)
  refine wpAny_take (i := 3) (v := ?_) rfl (by kernel_rfl) (by kernel_rfl) (by kernel_rfl) (fun _ _ _ h => h) (Or.inl ⟨by go_simp, ?_⟩) ?_
  rotate_left
  · (intro w'; go_simp; first | done | with_reducible rfl)
  refine wpAny_take (i := 5) (v := ?_) rfl (by kernel_rfl) (by kernel_rfl) (by kernel_rfl) (fun _ _ _ h => h) (Or.inl ⟨by go_simp, ?_⟩) ?_
  rotate_left
  · (intro w'; go_simp; first | done | with_reducible rfl)
  refine wpAny_of_D (S := fun w' => w' = WW.drew) (dep := 10) _ _ _ _ ?_
  refine wpAnyD_load (i := 4) (v := .int .i64 r0.l) [7, 8, 9, 10] rfl (by kernel_rfl) (by kernel_rfl) (by kernel_rfl) (by kernel_rfl) (by kernel_rfl) (by kernel_rfl) (by kernel_rfl) (fun _ _ _ h => h) (by go_simp) ?_ rfl ?_
  · (intro w' hS; subst hS; go_simp)
  refine wpAnyD_load (i := 6) (v := .int .i64 g.nons) [7, 8, 9, 10] rfl (by kernel_rfl) (by kernel_rfl) (by kernel_rfl) (by kernel_rfl) (by kernel_rfl) (by kernel_rfl) (by kernel_rfl) (fun _ _ _ h => h) (by go_simp) ?_ rfl ?_
  · (intro w' hS; subst hS; go_simp)
  refine wpAnyD_each (rs := [7]) (by kernel_rfl) (by simp) ?_
  refine EachD.cons (i := 7) (o := _) rfl (fun KK hKK => ?_) EachD.nil
  go_simp
  refine ((fun W => below_int r0.l g.nons W (by omega)) WW.drew).mono ?_
  rintro e7 w7 ⟨rfl, rfl⟩
  try go_simp
  refine hKK _ _ (fun _ => rfl) ?_
  clear hKK KK
  refine wpAnyD_pure (i := 8) (v := ?_) [9, 10] rfl (by kernel_rfl) (by kernel_rfl) (by kernel_rfl) (by kernel_rfl) (by kernel_rfl) (by kernel_rfl) (by kernel_rfl) (fun _ _ _ h => h) (by go_simp) ?_ rfl ?_
  rotate_left
  · (intro w'; go_simp; first | done | with_reducible rfl)
  refine wpAnyD_pure (i := 9) (v := ?_) [10] rfl (by kernel_rfl) (by kernel_rfl) (by kernel_rfl) (by kernel_rfl) (by kernel_rfl) (by kernel_rfl) (by kernel_rfl) (fun _ _ _ h => h) (by go_simp) ?_ rfl ?_
  rotate_left
  · (intro w'; go_simp; first | done | with_reducible rfl)
  refine wpAnyD_each (rs := [10]) (by kernel_rfl) (by simp) ?_
  refine EachD.cons (i := 10) (o := _) rfl (fun KK hKK => ?_) EachD.nil
  go_simp
  refine hKK _ _ (fun e => Bool.noConfusion (show true = false from e)) ?_
  clear hKK KK
  refine wpAnyD_of _ _ _ _ (by kernel_rfl) ?_
  refine wpAny_done (by kernel_rfl) ?_ _
  have hR10 := HR10.out
  generalize (xs ++ [Value.int .i64 r0.l, Value.slice Aq m0 cq]).set (nr * 2) (.int .i64 (r0.l % g.nons)) = xs2 at hR10 hx10
  generalize (WW.setCell ⟨bR, nr * 2, none⟩ (.int .i64 (r0.l % g.nons))).drew = W9 at hR10 gh10 hB10 ⊢
  clear HR10 c0 q3 p1 fR hbhR ggW hB9 gh9 hll hlq hlast WW HO5 HDI
  have hllz : ∀ z : Rule, (g.rules ++ [z]).length = nr + 1 := fun z => by rw [List.length_append, ← HNR.out]; rfl
  have hlq2 : ∀ z : Rule, nr < (g.rules ++ [z]).length := fun z => by rw [hllz]; omega
  have hset9 : ∀ z : Rule, (g.rules ++ [z])[nr]'(hlq2 z) = z := fun z => by simp [HNR.out]
  obtain ⟨b', hA', -, -, A8, c8, hx8, d1, -⟩ := hR10.cellAt (k := nr) (hlq2 _)
  injection hA' with hA'
  injection hA' with hA'
  subst hA'
  rw [hset9] at hx8 d1
  simp only [mapQ_zero] at hx8 d1
  rw [← HM0.out] at hx8 d1
  rw [hx10] at hx8
  injection hx8 with hx8
  injection hx8 with e1 e2 e3
  subst e1
  subst e3
  clear e2
  have HX10 := Lib.hid hx10
  have HR11 := Lib.hid hR10
  clear hx10 hR10
  go_wp2_with fail
  clear d1
  have hm04 : m0 ≤ 4 := hq4
  go_loopg [56] m0 (fun gk i wr => ∃ j : Nat, j ≤ m0 ∧ gk = m0 - j ∧ i = .int .i64 j ∧ RulesAt wr (w3.heap.size + 3) (.slice (some ⟨bR, 0, none⟩) (nr + 1) c7) (g.rules ++ [⟨r0.l % g.nons, mapQ (fixS g) r0.r j⟩]) xs2 ∧ Below w3.heap.size w5 wr ∧ wr.heap[bh]? = some (.cells #[.int .i64 g.terms, .int .i64 g.nons, .int .i64 g.start, .slice (some ⟨bR, 0, none⟩) (nr + 1) c7] 25 (0, 0)))
  case atStart => exact ⟨0, Nat.zero_le _, rfl, rfl, HR11.out, hB10, gh10⟩
  case round =>
    clear HR11 hB10 gh10 W9
    obtain ⟨j, hj, rfl, rfl, hR, hB, ghr⟩ := hrel
    obtain ⟨WW, rfl⟩ : ∃ WW : World, WW = wr := ⟨_, rfl⟩
    have hszq := hB.size
    have hjr : j ≤ r0.r.length := by rw [← HM0.out]; exact hj
    by_cases hltj : j < m0
    · have hjz : (j : Int) < (m0 : Int) := by omega
      have hltr : j < r0.r.length := by rw [← HM0.out]; exact hltj
      obtain ⟨b', hA', -, d0, A7, c7', hx7, d1, hcase7⟩ := hR.cellAt (k := nr) (hlq2 _)
      injection hA' with hA'
      injection hA' with hA'
      subst hA'
      rw [hset9] at hx7 d1 hcase7
      simp only [mapQ_len hjr] at hx7 d1 hcase7
      rw [← HM0.out] at hx7 d1
      rw [HX10.out] at hx7
      injection hx7 with hx7
      injection hx7 with e1 e2 e3
      subst e1
      subst e3
      clear e2 d0
      rcases hcase7 with ⟨_, hnil, _⟩ | ⟨b5, hA5, hb5, hsy⟩
      · exfalso
        have h0 : r0.r.length = 0 := by rw [← mapQ_len (f := fixS g) hjr, hnil]; rfl
        omega
      · subst hA5
        have hljm : j < (mapQ (fixS g) r0.r j).length := by rw [mapQ_len hjr]; exact hltr
        obtain ⟨y0, y1⟩ := hsy.cell hljm
        have hmset := mapQ_set (f := fixS g) hltr
        have hgt : (mapQ (fixS g) r0.r j)[j]'hljm = r0.r[j] := mapQ_get hltr
        rw [hgt] at y0 y1
        have hyf := hsy.free (j * 2 + 1)
        have ggr := (hB.block bg hgl5).trans gg5
        have hbh5 : bh ≠ b5 := fun e => by
          obtain ⟨cs, h1, _⟩ := hsy
          rw [← e, ghr] at h1
          injection h1 with h1
          injection h1 with _ h1
          exact absurd h1 (by decide)
        have hwr : ∀ v : Int, fixS g r0.r[j] = ⟨r0.r[j].t, v⟩ → RulesAt ((WW.setCell ⟨b5, j * 2 + 1, none⟩ (.int .i64 v)).drew) (w3.heap.size + 3) (.slice (some ⟨bR, 0, none⟩) (nr + 1) c7) (g.rules ++ [⟨r0.l % g.nons, mapQ (fixS g) r0.r (j + 1)⟩]) xs2 ∧ Below w3.heap.size w5 ((WW.setCell ⟨b5, j * 2 + 1, none⟩ (.int .i64 v)).drew) ∧ ((WW.setCell ⟨b5, j * 2 + 1, none⟩ (.int .i64 v)).drew).heap[bh]? = some (.cells #[.int .i64 g.terms, .int .i64 g.nons, .int .i64 g.start, .slice (some ⟨bR, 0, none⟩) (nr + 1) c7] 25 (0, 0)) := fun v hv => by
          refine ⟨?_, (hB.setCell (p := ⟨b5, j * 2 + 1, none⟩) (by show w3.heap.size ≤ b5; omega) _).drew, (heap_set_ne hbh5 _ _).trans ghr⟩
          have hs2 := hsy.setN hljm v
          rw [hgt, ← hv, hmset] at hs2
          have h1 := (hR.below (w' := WW.drew) ((Below.refl _ _).drew)).write (w' := (WW.setCell ⟨b5, j * 2 + 1, none⟩ (.int .i64 v)).drew) (q := nr) (b := b5) (c := _) (s' := mapQ (fixS g) r0.r (j + 1)) (hlq2 _) (by rw [hset9]; simp only [mapQ_len hjr]; rw [← HM0.out]; exact HX10.out) (by rw [hset9]; exact hsy.same rfl) (hs2.same rfl) (by rw [hset9]; simp only [mapQ_len hjr, mapQ_len (show j + 1 ≤ r0.r.length from hltr)]) (Away.setCell _ _ _ _ (.inl rfl))
          rw [hset9, hsetl] at h1
          exact h1
        have HWR := Lib.hid hwr
        generalize hrj : r0.r[j] = y at y0 y1 HWR
        obtain ⟨yt, yn⟩ := y
        simp only at y0 y1
        have m3 := blk_cell ghr (i := 3) rfl
        have k0 := blk_cell ggr (i := 0) rfl
        have k1 := blk_cell ggr (i := 1) rfl
        clear hwr hR hsy hmset hgt hbh5 hB ggr ghr hrj
        cases yt
        · go_wp2_with fail
          refine wp_region_any (by kernel_rfl) ?_
          change wpAny _ _ _ _ _ _ _ (World.drew _)
          refine wpAny_take (i := 0) (v := ?_) rfl (by kernel_rfl) (by kernel_rfl) (by kernel_rfl) (fun _ _ _ h => h) (Or.inl ⟨by go_simp, ?_⟩) ?_
          rotate_left
          · (intro w'; go_simp; first | done | with_reducible rfl)
          refine wpAny_take (i := 1) (v := ?_) rfl (by kernel_rfl) (by kernel_rfl) (by kernel_rfl) (fun _ _ _ h => h) (Or.inl ⟨by go_simp, ?_⟩) ?_
          rotate_left
          · (intro w'; go_simp; first | done | with_reducible rfl)
          refine wpAny_take (i := 2) (v := ?_) rfl (by kernel_rfl) (by kernel_rfl) (by kernel_rfl) (fun _ _ _ h => h) (Or.inl ⟨by go_simp, ?_⟩) ?_
          rotate_left
          · (intro w'; go_simp; first | done | with_reducible rfl)
          refine wpAny_take (i := 3) (v := ?_) rfl (by kernel_rfl) (by kernel_rfl) (by kernel_rfl) (fun _ _ _ h => h) (Or.inl ⟨by go_simp, ?_⟩) ?_
          rotate_left
          · (intro w'; go_simp; first | done | with_reducible rfl)
          refine wpAny_take (i := 5) (v := ?_) rfl (by kernel_rfl) (by kernel_rfl) (by kernel_rfl) (fun _ _ _ h => h) (Or.inl ⟨by go_simp, ?_⟩) ?_
          rotate_left
          · (intro w'; go_simp; first | done | with_reducible rfl)
          refine wpAny_of_D (S := fun w' => w' = WW.drew) (dep := 10) _ _ _ _ ?_
          refine wpAnyD_load (i := 4) (v := .int .i64 yn) [7, 8, 9, 10] rfl (by kernel_rfl) (by kernel_rfl) (by kernel_rfl) (by kernel_rfl) (by kernel_rfl) (by kernel_rfl) (by kernel_rfl) (fun _ _ _ h => h) (by go_simp) ?_ rfl ?_
          · (intro w' hS; subst hS; go_simp)
          refine wpAnyD_load (i := 6) (v := .int .i64 g.nons) [7, 8, 9, 10] rfl (by kernel_rfl) (by kernel_rfl) (by kernel_rfl) (by kernel_rfl) (by kernel_rfl) (by kernel_rfl) (by kernel_rfl) (fun _ _ _ h => h) (by go_simp) ?_ rfl ?_
          · (intro w' hS; subst hS; go_simp)
          refine wpAnyD_each (rs := [7]) (by kernel_rfl) (by simp) ?_
          refine EachD.cons (i := 7) (o := _) rfl (fun KK hKK => ?_) EachD.nil
          go_simp
          refine ((fun W => below_int yn g.nons W (by omega)) WW.drew).mono ?_
          rintro e7 w7 ⟨rfl, rfl⟩
          try go_simp
          refine hKK _ _ (fun _ => rfl) ?_
          clear hKK KK
          refine wpAnyD_pure (i := 8) (v := ?_) [9, 10] rfl (by kernel_rfl) (by kernel_rfl) (by kernel_rfl) (by kernel_rfl) (by kernel_rfl) (by kernel_rfl) (by kernel_rfl) (fun _ _ _ h => h) (by go_simp) ?_ rfl ?_
          rotate_left
          · (intro w'; go_simp; first | done | with_reducible rfl)
          refine wpAnyD_pure (i := 9) (v := ?_) [10] rfl (by kernel_rfl) (by kernel_rfl) (by kernel_rfl) (by kernel_rfl) (by kernel_rfl) (by kernel_rfl) (by kernel_rfl) (fun _ _ _ h => h) (by go_simp) ?_ rfl ?_
          rotate_left
          · (intro w'; go_simp; first | done | with_reducible rfl)
          refine wpAnyD_each (rs := [10]) (by kernel_rfl) (by simp) ?_
          refine EachD.cons (i := 10) (o := _) rfl (fun KK hKK => ?_) EachD.nil
          go_simp
          refine hKK _ _ (fun e => Bool.noConfusion (show true = false from e)) ?_
          clear hKK KK
          refine wpAnyD_of _ _ _ _ (by kernel_rfl) ?_
          refine wpAny_done (by kernel_rfl) ?_ _
          obtain ⟨hw1, hw2, hw3⟩ := HWR.out (yn % g.nons) rfl
          have HW1 := Lib.hid hw1
          clear hw1 HWR
          go_wp2_with fail
          go_roundg (m0 - (j + 1))
          case measure => omega
          case rel => exact ⟨j + 1, by omega, rfl, by go_num, HW1.out, hw2, hw3⟩
        · go_wp2_with fail
          refine wp_region_any (by kernel_rfl) ?_
          change wpAny _ _ _ _ _ _ _ (World.drew _)
          refine wpAny_take (i := 0) (v := ?_) rfl (by kernel_rfl) (by kernel_rfl) (by kernel_rfl) (fun _ _ _ h => h) (Or.inl ⟨by go_simp, ?_⟩) ?_
          rotate_left
          · (intro w'; go_simp; first | done | with_reducible rfl)
          refine wpAny_take (i := 1) (v := ?_) rfl (by kernel_rfl) (by kernel_rfl) (by kernel_rfl) (fun _ _ _ h => h) (Or.inl ⟨by go_simp, ?_⟩) ?_
          rotate_left
          · (intro w'; go_simp; first | done | with_reducible rfl)
          refine wpAny_take (i := 2) (v := ?_) rfl (by kernel_rfl) (by kernel_rfl) (by kernel_rfl) (fun _ _ _ h => h) (Or.inl ⟨by go_simp, ?_⟩) ?_
          rotate_left
          · (intro w'; go_simp; first | done | with_reducible rfl)
          refine wpAny_take (i := 3) (v := ?_) rfl (by kernel_rfl) (by kernel_rfl) (by kernel_rfl) (fun _ _ _ h => h) (Or.inl ⟨by go_simp, ?_⟩) ?_
          rotate_left
          · (intro w'; go_simp; first | done | with_reducible rfl)
          refine wpAny_take (i := 5) (v := ?_) rfl (by kernel_rfl) (by kernel_rfl) (by kernel_rfl) (fun _ _ _ h => h) (Or.inl ⟨by go_simp, ?_⟩) ?_
          rotate_left
          · (intro w'; go_simp; first | done | with_reducible rfl)
          refine wpAny_of_D (S := fun w' => w' = WW.drew) (dep := 10) _ _ _ _ ?_
          refine wpAnyD_load (i := 4) (v := .int .i64 yn) [7, 8, 9, 10] rfl (by kernel_rfl) (by kernel_rfl) (by kernel_rfl) (by kernel_rfl) (by kernel_rfl) (by kernel_rfl) (by kernel_rfl) (fun _ _ _ h => h) (by go_simp) ?_ rfl ?_
          · (intro w' hS; subst hS; go_simp)
          refine wpAnyD_load (i := 6) (v := .int .i64 g.terms) [7, 8, 9, 10] rfl (by kernel_rfl) (by kernel_rfl) (by kernel_rfl) (by kernel_rfl) (by kernel_rfl) (by kernel_rfl) (by kernel_rfl) (fun _ _ _ h => h) (by go_simp) ?_ rfl ?_
          · (intro w' hS; subst hS; go_simp)
          refine wpAnyD_each (rs := [7]) (by kernel_rfl) (by simp) ?_
          refine EachD.cons (i := 7) (o := _) rfl (fun KK hKK => ?_) EachD.nil
          go_simp
          refine ((fun W => below_int yn g.terms W (by omega)) WW.drew).mono ?_
          rintro e7 w7 ⟨rfl, rfl⟩
          try go_simp
          refine hKK _ _ (fun _ => rfl) ?_
          clear hKK KK
          refine wpAnyD_pure (i := 8) (v := ?_) [9, 10] rfl (by kernel_rfl) (by kernel_rfl) (by kernel_rfl) (by kernel_rfl) (by kernel_rfl) (by kernel_rfl) (by kernel_rfl) (fun _ _ _ h => h) (by go_simp) ?_ rfl ?_
          rotate_left
          · (intro w'; go_simp; first | done | with_reducible rfl)
          refine wpAnyD_pure (i := 9) (v := ?_) [10] rfl (by kernel_rfl) (by kernel_rfl) (by kernel_rfl) (by kernel_rfl) (by kernel_rfl) (by kernel_rfl) (by kernel_rfl) (fun _ _ _ h => h) (by go_simp) ?_ rfl ?_
          rotate_left
          · (intro w'; go_simp; first | done | with_reducible rfl)
          refine wpAnyD_each (rs := [10]) (by kernel_rfl) (by simp) ?_
          refine EachD.cons (i := 10) (o := _) rfl (fun KK hKK => ?_) EachD.nil
          go_simp
          refine hKK _ _ (fun e => Bool.noConfusion (show true = false from e)) ?_
          clear hKK KK
          refine wpAnyD_of _ _ _ _ (by kernel_rfl) ?_
          refine wpAny_done (by kernel_rfl) ?_ _
          obtain ⟨hw1, hw2, hw3⟩ := HWR.out (yn % g.terms) rfl
          have HW1 := Lib.hid hw1
          clear hw1 HWR
          go_wp2_with fail
          go_roundg (m0 - (j + 1))
          case measure => omega
          case rel => exact ⟨j + 1, by omega, rfl, by go_num, HW1.out, hw2, hw3⟩
    · obtain rfl : j = m0 := by omega
      have hall : mapQ (fixS g) r0.r j = (fixR g r0).r := by rw [HM0.out, mapQ_all]; rfl
      have hR2 : RulesAt WW (w3.heap.size + 3) (.slice (some ⟨bR, 0, none⟩) (nr + 1) c7) (g.rules ++ [fixR g r0]) xs2 := by
        rw [hall] at hR
        exact hR
      have hfo := fix_ok HV.out (r := r0) (by rw [← HM0.out]; exact hm04)
      generalize fixR g r0 = fr at hR2 hfo hall
      have hsl := hR2.isSl (fun r hr => by
        rcases List.mem_append.1 hr with h | h
        · have := (HV.out.ok r h).len; omega
        · rw [List.mem_singleton.1 h]; have := hfo.len; omega)
      have hr9 := HR5.out.keep (w' := WW) (fun b hb => hB.block b hb) hszq
      have hx9 := HX5.out.keep (w' := WW) (fun b hb => hB.block b hb) hszq
      have gg9 := (hB.block bg hgl5).trans gg5
      have hcg := mcount_any (fun b => b < w3.heap.size) (g := g) (x := x) HV.out (by omega) WW hcap HOKW.out hr9 hx9
      have hww : Below w.heap.size w WW := hw5.trans (hB.mono hwz)
      have k0 := blk_cell gg9 (i := 0) rfl
      have k1 := blk_cell gg9 (i := 1) rfl
      have k2 := blk_cell gg9 (i := 2) rfl
      have k3 := blk_cell gg9 (i := 3) rfl
      unfold gramV at hcg
      have HSL := Lib.hid hsl
      have HCG := Lib.hid hcg
      have HFO := Lib.hid hfo
      clear hsl hcg hr9 hR hR2 hB hall hfo
      go_wp2_with fail
      refine HCG.out.mono ?_
      rintro e7 w7 ⟨M, hIM, rfl, hb7⟩
      have gh7 := blk_below hb7 (blk_lt ghr) ghr
      have hx7 := hx9.below hb7
      have hw7 := hww.trans (hb7.mono hww.size)
      have HIM := Lib.hid hIM
      have HX7 := Lib.hid hx7
      have hsl7 := HSL.out.below hb7
      have hlm : (moreG g fr).rules.length = nr + 1 := hllz fr
      have HS7 := Lib.hid hsl7
      have k0 := blk_cell gh7 (i := 0) rfl
      have k1 := blk_cell gh7 (i := 1) rfl
      have k2 := blk_cell gh7 (i := 2) rfl
      have k3 := blk_cell gh7 (i := 3) rfl
      clear hIM hb7 hx7 hx9 gg9 ghr gh7 hww hsl7 HSL
      by_cases hin : fr ∈ g.rules
      · have hdup : DupG (moreG g fr) g.rules := by
          obtain ⟨i, hi, he⟩ := List.mem_iff_getElem.1 hin
          refine ⟨HV.out.t1, HV.out.t8, HV.out.n1, HV.out.n10, HV.out.s0, HV.out.s1, by rw [hlm]; omega, fun r hr => ?_, by rw [hlm, HNR.out], i, hi, ?_⟩
          · rcases List.mem_append.1 hr with h | h
            · have := HV.out.ok r h
              exact ⟨this.l0, this.l1, this.len, fun s hs => ⟨(this.syms s hs).n0, (this.syms s hs).nt, (this.syms s hs).nn⟩⟩
            · rw [List.mem_singleton.1 h]
              have := HFO.out
              exact ⟨this.l0, this.l1, this.len, fun s hs => ⟨(this.syms s hs).n0, (this.syms s hs).nt, (this.syms s hs).nn⟩⟩
          · show (g.rules ++ [fr])[i]? = (g.rules ++ [fr])[g.rules.length]?
            rw [List.getElem?_append_left hi, List.getElem?_append_right (Nat.le_refl _), Nat.sub_self, List.getElem?_eq_getElem hi, he]
            rfl
        have hcm : Calls Try.prog 32 #[.agg #[.int .i64 g.terms, .int .i64 g.nons, .int .i64 g.start, .slice (some ⟨bR, 0, none⟩) (nr + 1) c7], .slice C x.length cx] w7 fun e w' => e = .returned (.tuple #[.int .i64 0, .int .i64 6]) ∧ Below w7.heap.size w7 w' := by
          have h := mcount_there _ (g := moreG g fr) (l := g.rules) (A := some ⟨bR, 0, none⟩) (c := c7) (B := C) (m := x.length) (d := cx) hdup w7 (by rw [hlm]; exact hcap7) (by rw [hlm]; exact HS7.out)
          rw [hlm] at h
          exact h
        have HCM := Lib.hid hcm
        clear hcm hdup
        go_wp2_with fail
        refine HCM.out.mono ?_
        rintro e8 w8 ⟨rfl, hb8⟩
        have hw8 := hw7.trans (hb8.mono hw7.size)
        generalize cntU g x M = cu
        clear hb8 hw7 k0 k1 k2 k3
        go_wp2_with fail
        refine (means_any w8).mono ?_
        rintro e9 w9 ⟨rfl, hb9⟩
        have hw9 := hw8.trans (hb9.mono hw8.size)
        go_wp2_with fail
        go_ret
        exact ⟨rfl, hw9⟩
      · have hvm : Valid (moreG g fr) := more_valid HV.out HFO.out hin (by rw [← HNR.out]; omega)
        have hcm : Calls Try.prog 32 #[.agg #[.int .i64 g.terms, .int .i64 g.nons, .int .i64 g.start, .slice (some ⟨bR, 0, none⟩) (nr + 1) c7], .slice C x.length cx] w7 fun e w' => ∃ M, IsM (moreG g fr) x M ∧ e = .returned (.tuple #[.int .i64 (cntU (moreG g fr) x M), .int .i64 0]) ∧ Below w7.heap.size w7 w' := by
          have h := mcount_any (fun _ => True) (g := moreG g fr) (x := x) (A := some ⟨bR, 0, none⟩) (c := c7) (B := C) (d := cx) hvm (by omega) w7 (by rw [hlm]; exact hcap7) HOKW.out (by rw [hlm]; exact (HS7.out.weak fun _ _ => trivial)) (HX7.out.weak fun _ _ => trivial)
          rw [hlm] at h
          exact h
        have HCM := Lib.hid hcm
        clear hcm hvm
        go_wp2_with fail
        refine HCM.out.mono ?_
        rintro e8 w8 ⟨M8, hIM8, rfl, hb8⟩
        have hw8 := hw7.trans (hb8.mono hw7.size)
        have hmc := more_count HIM.out hIM8
        generalize cntU g x M = cu at hmc
        generalize cntU (moreG g fr) x M8 = cv at hmc ⊢
        have HMC := Lib.hid hmc
        clear hb8 hw7 hIM8 k0 k1 k2 k3 hmc
        go_wp2_with fail
        refine (means_any w8).mono ?_
        rintro e9 w9 ⟨rfl, hb9⟩
        have hw9 := hw8.trans (hb9.mono hw8.size)
        go_wp2_with fail
        refine (fewer_any cu cv w9).mono ?_
        rintro e10 w10 ⟨rfl, rfl⟩
        rw [decide_eq_true HMC.out]
        go_wp2_with fail
        go_ret
        exact ⟨rfl, hw9⟩
end Go.Proofs.Ytdbkbkopcnkgcaa
