import Derived.Test.YtdbkbkopcnkgcaaParts
import Derived.Test.YtdbkbkopcnkgcaaWoodFact
import Derived.Test.YtdbkbkopcnkgcaaBuild
open Go Go.RowKit
namespace Go.Proofs.Ytdbkbkopcnkgcaa

/-! ### the law ForestBuilt -/
set_option maxRecDepth 100000 in
set_option maxHeartbeats 6400000 in
theorem forestBuilt_any (F F2 : Nat → Prop) (l l2 : List Int) (A : Option Addr) (n c : Nat) (A2 : Option Addr) (n2 c2 : Nat) (w : World) (hl : IsSl Elt.int F w (.slice A n c) l) (hl2 : IsSl Elt.int F2 w (.slice A2 n2 c2) l2) (hnc : n ≤ c) :
    Calls Try.prog 5 #[.slice A n c, .slice A2 n2 c2] w fun e w' => e = .returned (.bool true) ∧ Below w.heap.size w w' := by
  go_enter Try.func5, Try.ntmps5
  go_wp2_with fail
  refine (made_any F F2 l l2 A n c A2 n2 c2 6 _ hl hl2 hnc (by decide)).mono ?_
  rintro e1 w1 ⟨g, A', c', x, C, cx, rfl, hM⟩
  have hv := hM.small.valid
  have hx6 := hM.most
  have hcap := hM.cap
  have hcx := hM.capx
  have hok : OkWord g x := hM.terms
  have hw1 := hM.below
  have hbA := below1 w1 (.cells #[.int .i64 g.terms, .int .i64 g.nons, .int .i64 g.start, .slice A' g.rules.length c'] 25)
  have hgA := heap_alloc_new w1 (.cells #[.int .i64 g.terms, .int .i64 g.nons, .int .i64 g.start, .slice A' g.rules.length c'] 25)
  have hrA := (hM.rules.below hbA).weak (G := fun _ => True) fun _ _ => trivial
  have hxA := (hM.word.below hbA).weak (G := fun _ => True) fun _ _ => trivial
  have hwA := hw1.trans (hbA.mono hw1.size)
  unfold gramV
  clear hM hl hl2 hw1 hbA
  have hsA := World.size_alloc w1 (.cells #[.int .i64 g.terms, .int .i64 g.nons, .int .i64 g.start, .slice A' g.rules.length c'] 25)
  have hof := of_any (fun _ => True) hv (by omega) _ hcap hok hrA hxA
  unfold gramV at hof
  have k0 := blk_cell hgA (i := 0) rfl
  have k1 := blk_cell hgA (i := 1) rfl
  have k2 := blk_cell hgA (i := 2) rfl
  have k3 := blk_cell hgA (i := 3) rfl
  go_wp2_with fail
  refine hof.mono ?_
  rintro e2 w2 ⟨M, N2, cn2, hIM, rfl, hb2, hs2⟩
  have g2 := blk_below hb2 (blk_lt hgA) hgA
  have hr2 := hrA.below hb2
  have hx2 := hxA.below hb2
  have hw2 := hwA.trans (hb2.mono hwA.size)
  replace hs2 := hs2.weak (G := fun _ => True) fun _ _ => trivial
  generalize hfe : madeF g x M = fe at hs2 ⊢
  obtain ⟨f, er⟩ := fe
  simp only at hs2 ⊢
  have HFE := Lib.hid hfe
  have hbX := below1 w2 (.cells #[.slice N2 f.nodes.length cn2, .int .i64 f.root] 30)
  have gx := heap_alloc_new w2 (.cells #[.slice N2 f.nodes.length cn2, .int .i64 f.root] 30)
  have g3 := blk_below hbX (blk_lt g2) g2
  have hr3 := hr2.below hbX
  have hx3 := hx2.below hbX
  have hs3 := hs2.below hbX
  have hw3 := hw2.trans (hbX.mono hw2.size)
  have hsX := World.size_alloc w2 (.cells #[.slice N2 f.nodes.length cn2, .int .i64 f.root] 30)
  have hgl := blk_lt g2
  clear hof k0 k1 k2 k3 hgA hrA hxA hb2 hwA g2 hr2 hx2 hs2 hw2 hbX hfe hsA
  go_wp2_with fail
  generalize w2.alloc (.cells #[.slice N2 f.nodes.length cn2, .int .i64 f.root] 30) = W at gx g3 hr3 hx3 hs3 hw3 hsX ⊢
  generalize w2.heap.size = bf at gx hsX hgl ⊢
  generalize w1.heap.size = bg at g3 hgl ⊢

  have k0 := blk_cell g3 (i := 0) rfl
  have k1 := blk_cell g3 (i := 1) rfl
  have k2 := blk_cell g3 (i := 2) rfl
  have k3 := blk_cell g3 (i := 3) rfl
  have hgW := blk_lt g3
  -- the two calls of region 3
  have hparts : ∀ W' : World, Below W.heap.size W W' → Calls Try.prog 28 #[.agg #[.int .i64 g.terms, .int .i64 g.nons, .int .i64 g.start, .slice A' g.rules.length c'], .slice C x.length cx] W' fun e w' => ∃ A4 c4 L, e = .returned (.slice A4 M.length c4) ∧ Below W'.heap.size W' w' ∧ RowsAt w' (W'.heap.size + 1) (.slice A4 M.length c4) L ∧ L.map (·.2) = M := fun W' hb => by
    have := parts_any (fun _ => True) hv (by omega) hIM W' hcap hcx hok (hr3.below hb) (hx3.below hb)
    unfold gramV at this
    exact this
  have hbuild : ∀ (W' : World) (A4 : Option Addr) (c4 : Nat), Below W.heap.size W W' → IsSl (Elt.sl Elt.u32) (fun _ => True) W' (.slice A4 M.length c4) M → Calls Try.prog 27 #[.agg #[.int .i64 g.terms, .int .i64 g.nons, .int .i64 g.start, .slice A' g.rules.length c'], .slice C x.length cx, .slice A4 M.length c4] W' fun e w' => ∃ N5 cn5, e = .returned (.tuple #[.agg #[.slice N5 f.nodes.length cn5, .int .i64 f.root], .int .i64 er]) ∧ Below W'.heap.size W' w' ∧ IsSl Elt.node (fun b => W'.heap.size ≤ b) w' (.slice N5 f.nodes.length cn5) f.nodes := fun W' A4 c4 hb hm => by
    have := build_any (fun _ => True) hv (by omega) W' hcap hok (hr3.below hb) (hx3.below hb) hm hIM.1 (sound_low hIM.2.1) (sound_short hIM.2.1 (entry_neg M))
    unfold gramV at this
    refine this.mono ?_
    rintro e w' ⟨N5, cn5, rfl, hb5, hs5⟩
    rw [HFE.out] at hs5 ⊢
    exact ⟨N5, cn5, rfl, hb5, hs5⟩
  have HP := Lib.hid hparts
  have HB := Lib.hid hbuild
  have HS3 := Lib.hid hs3
  have HX := Lib.hid gx
  have HW := Lib.hid hw3
  clear hparts hbuild hr3 hx3 hs3 gx hw3 hIM hok hv
  go_cut [8, 9] (fun s8 s9 wx => ∃ b8 N5 cn5, s8 = .pointer (some ⟨b8, 0, none⟩) ∧ s9 = .int .i64 er ∧ Below W.heap.size W wx ∧ wx.heap[b8]? = some (.cells #[.slice N5 f.nodes.length cn5, .int .i64 f.root] 30 (0, 0)) ∧ IsSl Elt.node (fun b => b ≠ b8) wx (.slice N5 f.nodes.length cn5) f.nodes)
  case first =>
    refine wp_region_any (by kernel_rfl) ?_
    change wpAny _ _ _ _ _ _ _ (World.drew _)
    have hWd : Below W.heap.size W W.drew := (Below.refl _ W).drew
    refine wpAny_take (i := 1) (v := ?_) rfl (by kernel_rfl) (by kernel_rfl) (by kernel_rfl) (fun _ _ _ h => h) (Or.inl ⟨by go_simp, ?_⟩) ?_
    rotate_left
    · (intro w'; go_simp; first | done | with_reducible rfl)
    refine wpAny_take (i := 3) (v := ?_) rfl (by kernel_rfl) (by kernel_rfl) (by kernel_rfl) (fun _ _ _ h => h) (Or.inl ⟨by go_simp, ?_⟩) ?_
    rotate_left
    · (intro w'; go_simp; first | done | with_reducible rfl)
    refine wpAny_of_D (S := fun w' => Below W.heap.size W w') (dep := 5) _ _ _ _ ?_
    refine wpAnyD_load (i := 0) (v := .agg #[.int .i64 g.terms, .int .i64 g.nons, .int .i64 g.start, .slice A' g.rules.length c']) [5] rfl (by kernel_rfl) (by kernel_rfl) (by kernel_rfl) (by kernel_rfl) (by kernel_rfl) (by kernel_rfl) (by kernel_rfl) (fun _ _ _ h => h) (by go_simp) ?_ hWd ?_
    · (intro w' hS; have e0 := (hS.cell (p := ⟨bg, 0, none⟩) hgW).trans k0; have e1 := (hS.cell (p := ⟨bg, 1, none⟩) hgW).trans k1; have e2 := (hS.cell (p := ⟨bg, 2, none⟩) hgW).trans k2; have e3 := (hS.cell (p := ⟨bg, 3, none⟩) hgW).trans k3; go_simp)
    refine wpAnyD_load (i := 2) (v := .agg #[.int .i64 g.terms, .int .i64 g.nons, .int .i64 g.start, .slice A' g.rules.length c']) [4, 5] rfl (by kernel_rfl) (by kernel_rfl) (by kernel_rfl) (by kernel_rfl) (by kernel_rfl) (by kernel_rfl) (by kernel_rfl) (fun _ _ _ h => h) (by go_simp) ?_ hWd ?_
    · (intro w' hS; have e0 := (hS.cell (p := ⟨bg, 0, none⟩) hgW).trans k0; have e1 := (hS.cell (p := ⟨bg, 1, none⟩) hgW).trans k1; have e2 := (hS.cell (p := ⟨bg, 2, none⟩) hgW).trans k2; have e3 := (hS.cell (p := ⟨bg, 3, none⟩) hgW).trans k3; go_simp)
    refine wpAnyD_each (rs := [4, 9]) (by kernel_rfl) (by simp) ?_
    refine EachD.cons (i := 4) (o := _) rfl (fun K hK => ?_) ?_
    · go_simp
      refine (HP.out _ hWd).mono ?_
      rintro e4 w4 ⟨A4, c4, L, rfl, hb4, hL4, hLM⟩
      have hW4 : Below W.heap.size W w4 := hWd.trans (hb4.mono hWd.size)
      have hm4 : IsSl (Elt.sl Elt.u32) (fun _ => True) w4 (.slice A4 M.length c4) M := by have h := hL4.isSl; rw [hLM] at h; exact h.weak fun _ _ => trivial
      clear hL4
      try go_simp
      refine hK _ _ (fun _ => hW4) ?_
      clear hK K
      refine wpAnyD_each (rs := [5, 9]) (by kernel_rfl) (by simp) ?_
      refine EachD.cons (i := 5) (o := _) rfl (fun K hK => ?_) ?_
      · go_simp
        refine (HB.out _ A4 c4 hW4 hm4).mono ?_
        rintro e5 w5 ⟨N5, cn5, rfl, hb5, hs5⟩
        have hW5 : Below W.heap.size W w5 := hW4.trans (hb5.mono hW4.size)
        try go_simp
        refine hK _ _ (fun e => Bool.noConfusion (show true = false from e)) ?_
        clear hK K
        refine wpAnyD_of _ _ _ _ (by kernel_rfl) ?_
        refine wpAny_take (i := 6) (v := ?_) rfl (by kernel_rfl) (by kernel_rfl) (by kernel_rfl) (fun _ _ _ h => h) (Or.inl ⟨by go_simp, ?_⟩) ?_
        rotate_left
        · (intro w'; go_simp; first | done | with_reducible rfl)
        refine wpAny_take (i := 7) (v := ?_) rfl (by kernel_rfl) (by kernel_rfl) (by kernel_rfl) (fun _ _ _ h => h) (Or.inl ⟨by go_simp, ?_⟩) ?_
        rotate_left
        · (intro w'; go_simp; first | done | with_reducible rfl)
        refine wpAny_take (i := 8) (v := ?_) rfl (by kernel_rfl) (by kernel_rfl) (by kernel_rfl) (fun _ _ _ h => h) (Or.inl ⟨by go_simp, ?_⟩) ?_
        rotate_left
        · (intro w'; go_simp; first | done | with_reducible rfl)
        refine wpAny_of_D (S := fun _ => True) (dep := 11) _ _ _ _ ?_
        refine wpAnyD_each (rs := [9]) (by kernel_rfl) (by simp) ?_
        refine EachD.cons (i := 9) (o := _) rfl (fun K hK => ?_) EachD.nil
        go_simp
        refine hK _ _ (fun _ => trivial) ?_
        clear hK K
        refine wpAnyD_each (rs := [10]) (by kernel_rfl) (by simp) ?_
        refine EachD.cons (i := 10) (o := _) rfl (fun K hK => ?_) EachD.nil
        go_simp
        refine hK _ _ (fun _ => trivial) ?_
        clear hK K
        refine wpAnyD_each (rs := [11]) (by kernel_rfl) (by simp) ?_
        refine EachD.cons (i := 11) (o := _) rfl (fun K hK => ?_) EachD.nil
        go_simp
        refine hK _ _ (fun e => Bool.noConfusion (show true = false from e)) ?_
        clear hK K
        refine wpAnyD_of _ _ _ _ (by kernel_rfl) ?_
        refine wpAny_done (by kernel_rfl) ?_ _
        go_wp2_with fail
        go_meet
        exact ⟨w5.heap.size, N5, cn5, rfl, rfl, hW5.trans ((below1 w5 _).mono hW5.size), heap_alloc_new _ _, (hs5.old.below (below1 w5 _)).weak fun b hb => by omega⟩
      · refine EachD.cons (i := 9) (o := _) rfl (fun K hK => ?_) EachD.nil
        go_simp
        have hz := heap_alloc_new w4 (.cells #[.slice none 0 0, .int .i64 0] 30)
        have hzb := below1 w4 (.cells #[.slice none 0 0, .int .i64 0] 30)
        have hWz : Below W.heap.size W (w4.alloc (.cells #[.slice none 0 0, .int .i64 0] 30)) := hW4.trans (hzb.mono hW4.size)
        have hszz := World.size_alloc w4 (.cells #[.slice none 0 0, .int .i64 0] 30)
        refine hK _ _ (fun _ => hWz) ?_
        clear hK K
        refine wpAnyD_each (rs := [5]) (by kernel_rfl) (by simp) ?_
        refine EachD.cons (i := 5) (o := _) rfl (fun K hK => ?_) EachD.nil
        go_simp
        refine (HB.out _ A4 c4 hWz (hm4.below hzb)).mono ?_
        rintro e5 w5 ⟨N5, cn5, rfl, hb5, hs5⟩
        have hW5 : Below W.heap.size W w5 := hWz.trans (hb5.mono hWz.size)
        have g5 := blk_below hb5 (by rw [hszz]; omega) hz
        have HBZ : W.heap.size ≤ w4.heap.size := hW4.size
        have HNZ : ∀ b, (w4.alloc (.cells #[.slice none 0 0, .int .i64 0] 30)).heap.size ≤ b → b ≠ w4.heap.size := fun b hb => by rw [hszz] at hb; omega
        try go_simp
        refine hK _ _ (fun e => Bool.noConfusion (show true = false from e)) ?_
        clear hK K
        refine wpAnyD_of _ _ _ _ (by kernel_rfl) ?_
        refine wpAny_take (i := 6) (v := ?_) rfl (by kernel_rfl) (by kernel_rfl) (by kernel_rfl) (fun _ _ _ h => h) (Or.inl ⟨by go_simp, ?_⟩) ?_
        rotate_left
        · (intro w'; go_simp; first | done | with_reducible rfl)
        refine wpAny_take (i := 7) (v := ?_) rfl (by kernel_rfl) (by kernel_rfl) (by kernel_rfl) (fun _ _ _ h => h) (Or.inl ⟨by go_simp, ?_⟩) ?_
        rotate_left
        · (intro w'; go_simp; first | done | with_reducible rfl)
        refine wpAny_take (i := 8) (v := ?_) rfl (by kernel_rfl) (by kernel_rfl) (by kernel_rfl) (fun _ _ _ h => h) (Or.inl ⟨by go_simp, ?_⟩) ?_
        rotate_left
        · (intro w'; go_simp; first | done | with_reducible rfl)
        have q0 := blk_cell g5 (i := 0) rfl
        have q1 := blk_cell g5 (i := 1) rfl
        have f0 : w5.frozen? ⟨w4.heap.size, 0, none⟩ = false := blk_free g5
        have f1 : w5.frozen? ⟨w4.heap.size, 1, none⟩ = false := blk_free g5
        refine wpAny_of_D (S := fun _ => True) (dep := 11) _ _ _ _ ?_
        refine wpAnyD_each (rs := [10]) (by kernel_rfl) (by simp) ?_
        refine EachD.cons (i := 10) (o := _) rfl (fun K hK => ?_) EachD.nil
        go_simp
        refine hK _ _ (fun _ => trivial) ?_
        clear hK K
        refine wpAnyD_each (rs := [11]) (by kernel_rfl) (by simp) ?_
        refine EachD.cons (i := 11) (o := _) rfl (fun K hK => ?_) EachD.nil
        go_simp
        refine hK _ _ (fun e => Bool.noConfusion (show true = false from e)) ?_
        clear hK K
        refine wpAnyD_of _ _ _ _ (by kernel_rfl) ?_
        refine wpAny_done (by kernel_rfl) ?_ _
        go_wp2_with fail
        go_meet
        exact ⟨w4.heap.size, N5, cn5, rfl, rfl, (hW5.setCell (p := ⟨w4.heap.size, 0, none⟩) HBZ _).setCell (p := ⟨w4.heap.size, 1, none⟩) HBZ _, by rw [heap_set (heap_set g5 _ _)]; rfl, (hs5.keep (fun b hb => by rw [heap_set_ne (HNZ b hb), heap_set_ne (HNZ b hb)]) (by rw [size_setCell, size_setCell]; exact Nat.le_refl _)).weak fun b hb => HNZ b hb⟩
    · refine EachD.cons (i := 9) (o := _) rfl (fun K hK => ?_) EachD.nil
      go_simp
      have hz : (W.alloc (.cells #[.slice none 0 0, .int .i64 0] 30)).drew.heap[W.heap.size]? = some (.cells #[.slice none 0 0, .int .i64 0] 30) := heap_alloc_new W (.cells #[.slice none 0 0, .int .i64 0] 30)
      have hzb := below1 W (.cells #[.slice none 0 0, .int .i64 0] 30)
      have hWz : Below W.heap.size W (W.alloc (.cells #[.slice none 0 0, .int .i64 0] 30)).drew := hzb.trans ((Below.refl _ _).drew.mono hzb.size)
      have hszz : (W.alloc (.cells #[.slice none 0 0, .int .i64 0] 30)).drew.heap.size = bf + 2 := by rw [show (W.alloc (.cells #[.slice none 0 0, .int .i64 0] 30)).drew.heap.size = (W.alloc (.cells #[.slice none 0 0, .int .i64 0] 30)).heap.size from rfl, World.size_alloc, hsX]
      rw [hsX] at hz
      refine hK _ _ (fun _ => hWz) ?_
      clear hK K
      refine wpAnyD_each (rs := [4]) (by kernel_rfl) (by simp) ?_
      refine EachD.cons (i := 4) (o := _) rfl (fun K hK => ?_) EachD.nil
      go_simp
      refine (HP.out _ hWz).mono ?_
      rintro e4 w4 ⟨A4, c4, L, rfl, hb4, hL4, hLM⟩
      have hW4 : Below W.heap.size W w4 := hWz.trans (hb4.mono hWz.size)
      have hm4 : IsSl (Elt.sl Elt.u32) (fun _ => True) w4 (.slice A4 M.length c4) M := by have h := hL4.isSl; rw [hLM] at h; exact h.weak fun _ _ => trivial
      clear hL4
      have g4 := blk_below hb4 (by rw [hszz]; omega) hz
      have hs4 := hb4.size
      rw [hszz] at hs4
      try go_simp
      refine hK _ _ (fun _ => hW4) ?_
      clear hK K
      refine wpAnyD_each (rs := [5]) (by kernel_rfl) (by simp) ?_
      refine EachD.cons (i := 5) (o := _) rfl (fun K hK => ?_) EachD.nil
      go_simp
      refine (HB.out _ A4 c4 hW4 hm4).mono ?_
      rintro e5 w5 ⟨N5, cn5, rfl, hb5, hs5⟩
      have hW5 : Below W.heap.size W w5 := hW4.trans (hb5.mono hW4.size)
      have g5 := blk_below hb5 (by omega) g4
      have HBZ : W.heap.size ≤ bf + 1 := by omega
      have HNZ : ∀ b, w4.heap.size ≤ b → b ≠ bf + 1 := fun b hb => by omega
      try go_simp
      refine hK _ _ (fun e => Bool.noConfusion (show true = false from e)) ?_
      clear hK K
      refine wpAnyD_of _ _ _ _ (by kernel_rfl) ?_
      refine wpAny_take (i := 6) (v := ?_) rfl (by kernel_rfl) (by kernel_rfl) (by kernel_rfl) (fun _ _ _ h => h) (Or.inl ⟨by go_simp, ?_⟩) ?_
      rotate_left
      · (intro w'; go_simp; first | done | with_reducible rfl)
      refine wpAny_take (i := 7) (v := ?_) rfl (by kernel_rfl) (by kernel_rfl) (by kernel_rfl) (fun _ _ _ h => h) (Or.inl ⟨by go_simp, ?_⟩) ?_
      rotate_left
      · (intro w'; go_simp; first | done | with_reducible rfl)
      refine wpAny_take (i := 8) (v := ?_) rfl (by kernel_rfl) (by kernel_rfl) (by kernel_rfl) (fun _ _ _ h => h) (Or.inl ⟨by go_simp, ?_⟩) ?_
      rotate_left
      · (intro w'; go_simp; first | done | with_reducible rfl)
      have q0 := blk_cell g5 (i := 0) rfl
      have q1 := blk_cell g5 (i := 1) rfl
      have f0 : w5.frozen? ⟨bf + 1, 0, none⟩ = false := blk_free g5
      have f1 : w5.frozen? ⟨bf + 1, 1, none⟩ = false := blk_free g5
      refine wpAny_of_D (S := fun _ => True) (dep := 11) _ _ _ _ ?_
      refine wpAnyD_each (rs := [10]) (by kernel_rfl) (by simp) ?_
      refine EachD.cons (i := 10) (o := _) rfl (fun K hK => ?_) EachD.nil
      go_simp
      refine hK _ _ (fun _ => trivial) ?_
      clear hK K
      refine wpAnyD_each (rs := [11]) (by kernel_rfl) (by simp) ?_
      refine EachD.cons (i := 11) (o := _) rfl (fun K hK => ?_) EachD.nil
      go_simp
      refine hK _ _ (fun e => Bool.noConfusion (show true = false from e)) ?_
      clear hK K
      refine wpAnyD_of _ _ _ _ (by kernel_rfl) ?_
      refine wpAny_done (by kernel_rfl) ?_ _
      go_wp2_with fail
      go_meet
      exact ⟨bf + 1, N5, cn5, rfl, rfl, (hW5.setCell (p := ⟨bf + 1, 0, none⟩) HBZ _).setCell (p := ⟨bf + 1, 1, none⟩) HBZ _, by rw [heap_set (heap_set g5 _ _)]; rfl, (hs5.keep (fun b hb => by rw [heap_set_ne (HNZ b hb), heap_set_ne (HNZ b hb)]) (by rw [size_setCell, size_setCell]; exact Nat.le_refl _)).weak fun b hb => HNZ b hb⟩
  case rest =>
  obtain ⟨b8, N5, cn5, rfl, rfl, hbx, h8, hs8⟩ := hcut
  have hxc := blk_below hbx (blk_lt HX.out) HX.out
  have hwc := HW.out.trans (hbx.mono HW.out.size)
  have hwd := woods_any wc
  clear k0 k1 k2 k3 HP HB
  go_wp2_with fail
  refine hwd.mono ?_
  rintro e9 w9 ⟨rfl, hb9⟩
  have g8 := blk_below hb9 (blk_lt h8) h8
  have gx9 := blk_below hb9 (blk_lt hxc) hxc
  have hsa := same_any _ _ f N2 cn2 N5 cn5 w9 ((HS3.out.below hbx).below hb9) (hs8.below hb9)
  have hw9 := hwc.trans (hb9.mono hwc.size)
  have m0 := blk_cell gx9 (i := 0) rfl
  have m1 := blk_cell gx9 (i := 1) rfl
  have m2 := blk_cell g8 (i := 0) rfl
  have m3 := blk_cell g8 (i := 1) rfl
  clear hwd h8 hs8 hxc HS3 HX
  go_wp2_with fail
  refine hsa.mono ?_
  rintro e10 w10 ⟨rfl, hb10⟩
  go_wp2_with fail
  go_ret
  exact ⟨rfl, hw9.trans (hb10.mono hw9.size)⟩
end Go.Proofs.Ytdbkbkopcnkgcaa
