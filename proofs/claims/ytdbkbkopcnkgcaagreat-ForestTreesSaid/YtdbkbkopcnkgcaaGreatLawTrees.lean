import Derived.Test.YtdbkbkopcnkgcaaGreatWoodS
import Derived.Test.YtdbkbkopcnkgcaaGreatWoodFact
import Derived.Test.YtdbkbkopcnkgcaaGreatTreeN
import Derived.Test.YtdbkbkopcnkgcaaGreatSameT
open Go Go.RowKit
namespace Go.Proofs.YtdbkbkopcnkgcaaGreat

/-! ### forest.Count and forest.Trees -/
section
variable {g : Gram} {x : List Int} {M : List (List Nat)} {A : Option Addr} {c : Nat} {N : Option Addr} {cn : Nat} {F F2 : Nat → Prop}
set_option maxRecDepth 100000 in
set_option maxHeartbeats 1600000 in
theorem fcheckedNone_any (hv : Valid g) (w : World) (hc : g.rules.length ≤ c) (hr : IsSl Elt.rule F w (.slice A g.rules.length c) g.rules) :
    Calls Tryz.prog 19 #[gramV g (.slice A g.rules.length c), .agg #[.slice N 0 cn, .int .i64 (-1)]] w fun e w' => e = .returned (.tuple #[.slice none 0 0, .bool false, .int .i64 0]) ∧ Below w.heap.size w w' := by
  have hb2 := below2 w (.cells #[.int .i64 g.terms, .int .i64 g.nons, .int .i64 g.start, .slice A g.rules.length c] 25) (.cells #[.slice N 0 cn, .int .i64 (-1)] 31)
  have g0 := blk_new1 (w := w) rfl (.cells #[.int .i64 g.terms, .int .i64 g.nons, .int .i64 g.start, .slice A g.rules.length c] 25) (.cells #[.slice N 0 cn, .int .i64 (-1)] 31)
  have g1 := blk_new' (w := w.alloc (.cells #[.int .i64 g.terms, .int .i64 g.nons, .int .i64 g.start, .slice A g.rules.length c] 25)) (a := w.heap.size + 1) (by rw [World.size_alloc]) (.cells #[.slice N 0 cn, .int .i64 (-1)] 31)
  have hck := check_valid F g A _ c _ (hr.below hb2) hv hc
  have k0 := blk_cell g0 (i := 0) rfl
  have k1 := blk_cell g0 (i := 1) rfl
  have k2 := blk_cell g0 (i := 2) rfl
  have k3 := blk_cell g0 (i := 3) rfl
  unfold gramV at hck ⊢
  go_enter Tryz.func19, Tryz.ntmps19
  go_wp2_with fail
  generalize (w.alloc (.cells #[.int .i64 g.terms, .int .i64 g.nons, .int .i64 g.start, .slice A g.rules.length c] 25)).alloc (.cells #[.slice N 0 cn, .int .i64 (-1)] 31) = W at hb2 g0 g1 hck k0 k1 k2 k3 ⊢
  refine hck.mono ?_
  rintro e1 w1 ⟨rfl, hb1⟩
  have g3 := blk_below hb1 (blk_lt g1) g1
  have hw1 := hb2.trans (hb1.mono hb2.size)
  have f0 := blk_cell g3 (i := 0) rfl
  have f1 := blk_cell g3 (i := 1) rfl
  clear hck k0 k1 k2 k3 g0 g1 hb1 hr
  go_wp2_with fail
  exact bodyPost_ret (v := .tuple #[.slice none 0 0, .bool false, .int .i64 0]) (by kernel_rfl) rfl ⟨rfl, hw1⟩
set_option maxRecDepth 100000 in
set_option maxHeartbeats 1600000 in
theorem fCountNone_any (hv : Valid g) (w : World) (hc : g.rules.length ≤ c) (hr : IsSl Elt.rule F w (.slice A g.rules.length c) g.rules) :
    Calls Tryz.prog 7 #[gramV g (.slice A g.rules.length c), .agg #[.slice N 0 cn, .int .i64 (-1)]] w fun e w' => e = .returned (.tuple #[.int .i64 0, .int .i64 0]) ∧ Below w.heap.size w w' := by
  have hb2 := below2 w (.cells #[.int .i64 g.terms, .int .i64 g.nons, .int .i64 g.start, .slice A g.rules.length c] 25) (.cells #[.slice N 0 cn, .int .i64 (-1)] 31)
  have hck := fcheckedNone_any (N := N) (cn := cn) hv _ hc (hr.below hb2)
  have hb2' := hb2
  unfold gramV at hck ⊢
  go_enter Tryz.func7, Tryz.ntmps7
  go_wp2_with fail
  refine hck.mono ?_
  rintro e1 w1 ⟨rfl, hb1⟩
  go_wp2_with fail
  go_ret2
  exact ⟨rfl, hb2'.trans (hb1.mono hb2'.size)⟩
set_option maxRecDepth 100000 in
set_option maxHeartbeats 1600000 in
theorem fTreesNone_any (hv : Valid g) (w : World) (hc : g.rules.length ≤ c) (hr : IsSl Elt.rule F w (.slice A g.rules.length c) g.rules) (most : Nat) (hm : most ≤ 100) :
    Calls Tryz.prog 9 #[gramV g (.slice A g.rules.length c), .agg #[.slice N 0 cn, .int .i64 (-1)], .int .i64 most] w fun e w' => e = .returned (.tuple #[.slice none 0 0, .int .i64 0]) ∧ Below w.heap.size w w' := by
  have hb2 := below2 w (.cells #[.int .i64 g.terms, .int .i64 g.nons, .int .i64 g.start, .slice A g.rules.length c] 25) (.cells #[.slice N 0 cn, .int .i64 (-1)] 31)
  have hck := fcheckedNone_any (N := N) (cn := cn) hv _ hc (hr.below hb2)
  have hb2' := hb2
  have m1 : ¬ ((most : Int) < 0) := by omega
  have m2 : ¬ ((most : Int) > 100) := by omega
  unfold gramV at hck ⊢
  go_enter Tryz.func9, Tryz.ntmps9
  go_wp2_with fail
  refine hck.mono ?_
  rintro e1 w1 ⟨rfl, hb1⟩
  go_wp2_with fail
  go_ret2
  exact ⟨rfl, hb2'.trans (hb1.mono hb2'.size)⟩
set_option maxRecDepth 100000 in
set_option maxHeartbeats 1600000 in
theorem fTrees_any (hv : Valid g) (hm : x.length ≤ 12) (w : World) (hc : g.rules.length ≤ c) (ho : OkWord g x)
    (hr : IsSl Elt.rule F w (.slice A g.rules.length c) g.rules) (hM : IsM g x M) (f : ForD) (hf : madeF g x M = (f, 0)) (rn : Nat) (hrt : f.root = rn) (hrn : rn < f.nodes.length) (hj : f.nodes[rn].j = x.length) (hw : wordF f.nodes x.length = ⟨x, List.replicate x.length true⟩)
    (hn : IsSl Elt.node F2 w (.slice N f.nodes.length cn) f.nodes) (most : Nat) (hmost : most ≤ 100) {ts : List Tr} {err : Int} (ht : TR g x M most ts err) :
    Calls Tryz.prog 9 #[gramV g (.slice A g.rules.length c), .agg #[.slice N f.nodes.length cn, .int .i64 f.root], .int .i64 most] w fun e w' => ∃ A c, e = .returned (.tuple #[.slice A ts.length c, .int .i64 err]) ∧ IsSl Elt.tree (fun _ => True) w' (.slice A ts.length c) ts ∧ Below w.heap.size w w' := by
  have hb2 := below2 w (.cells #[.int .i64 g.terms, .int .i64 g.nons, .int .i64 g.start, .slice A g.rules.length c] 25) (.cells #[.slice N f.nodes.length cn, .int .i64 f.root] 31)
  have g0 := blk_new1 (w := w) rfl (.cells #[.int .i64 g.terms, .int .i64 g.nons, .int .i64 g.start, .slice A g.rules.length c] 25) (.cells #[.slice N f.nodes.length cn, .int .i64 f.root] 31)
  have hck := fchecked_any (F := F) (F2 := F2) (N := N) (cn := cn) hv hm _ hc ho (hr.below hb2) hM f hf rn hrt hrn hj hw (hn.below hb2)
  have HR := Lib.hid (hr.below hb2)
  have hb2' := hb2
  have m1 : ¬ ((most : Int) < 0) := by omega
  have m2 : ¬ ((most : Int) > 100) := by omega
  have HCK := Lib.hid hck
  have HM := Lib.hid hM
  have HT := Lib.hid ht
  have hgl := blk_lt g0
  unfold gramV at HCK ⊢
  clear hck hr hn hf hw hrt hj hM ht hrn
  go_enter Tryz.func9, Tryz.ntmps9
  go_wp2_with fail
  refine HCK.out.mono ?_
  rintro e1 w1 ⟨b, rfl, hb1, hs1⟩
  have g1 := blk_below hb1 hgl g0
  have htr := treesN_any _ hv hm w1 hc ho ((HR.out.below hb1).weak (G := fun _ => True) fun _ _ => trivial) (hs1.weak fun _ _ => trivial) most hmost HM.out HT.out
  unfold gramV at htr
  have hw1 := hb2'.trans (hb1.mono hb2'.size)
  have k0 := blk_cell g1 (i := 0) rfl
  have k1 := blk_cell g1 (i := 1) rfl
  have k2 := blk_cell g1 (i := 2) rfl
  have k3 := blk_cell g1 (i := 3) rfl
  clear g0 g1 hs1 hb1
  go_wp2_with fail
  refine htr.mono ?_
  rintro e2 w2 ⟨A2, c2, rfl, hc2, hs2, hb2⟩
  have HS2 := Lib.hid (hs2.weak (G := fun _ => True) fun _ _ => trivial)
  have hwf := hw1.trans (hb2.mono hw1.size)
  clear hs2 htr k0 k1 k2 k3
  go_wp2_with fail
  go_ret2
  exact ⟨A2, c2, rfl, HS2.out, hwf⟩
end

/-! ### the law ForestTrees -/
theorem madeN_few {g : Gram} {x : List Int} {M : List (List Nat)} (hs : Small g) (hx : x.length ≤ 8) : (madeF g x M).1.nodes.length ≤ 3042 := by
  cases h : (entry M g.start 0).testBit x.length
  · rw [made_empty h]; simp
  · obtain ⟨s, h1, h2⟩ := made_small hs hx h
    rw [h2]
    simp only [forestF, List.length_map, keysF, List.length_mergeSort]
    have h3 := nodup_sub_len (keysR s) (partsF g x) h1.nodup fun p hp => h1.ok p ((h1.keys p).1 hp)
    have h4 := partsF_len (x := x) hs.valid (by omega)
    have h5 : (keysR s).length = s.ways.length := by unfold keysR; simp
    omega
set_option maxRecDepth 100000 in
set_option maxHeartbeats 6400000 in
theorem forestTrees_any (F F2 : Nat → Prop) (l l2 : List Int) (A : Option Addr) (n c : Nat) (A2 : Option Addr) (n2 c2' : Nat) (most : Int) (w : World) (hl : IsSl Elt.int F w (.slice A n c) l) (hl2 : IsSl Elt.int F2 w (.slice A2 n2 c2') l2) (hnc : n ≤ c) :
    Calls Tryz.prog 3 #[.slice A n c, .slice A2 n2 c2', .int .i64 most] w fun e w' => e = .returned (.bool true) ∧ Below w.heap.size w w' := by
  go_enter Tryz.func3, Tryz.ntmps3
  go_wp2_with fail
  refine (made_any F F2 l l2 A n c A2 n2 c2' 5 _ hl hl2 hnc (by decide)).mono ?_
  rintro e1 w1 ⟨g, A', c', x, C, cx, rfl, hM⟩
  have hsm := hM.small
  have hv := hM.small.valid
  have hx5 := hM.most
  have hcap := hM.cap
  have hcx := hM.capx
  have hok : OkWord g x := hM.terms
  have hw1 := hM.below
  have hbA := below1 w1 (.cells #[.int .i64 g.terms, .int .i64 g.nons, .int .i64 g.start, .slice A' g.rules.length c'] 25)
  have gg := heap_alloc_new w1 (.cells #[.int .i64 g.terms, .int .i64 g.nons, .int .i64 g.start, .slice A' g.rules.length c'] 25)
  have hrA := (hM.rules.below hbA).weak (G := fun _ => True) fun _ _ => trivial
  have hxA := (hM.word.below hbA).weak (G := fun _ => True) fun _ _ => trivial
  have hwA := hw1.trans (hbA.mono hw1.size)
  have hb := below_int most 20 (w1.alloc (.cells #[.int .i64 g.terms, .int .i64 g.nons, .int .i64 g.start, .slice A' g.rules.length c'] 25)) (by omega)
  have hz0 := Int.emod_nonneg most (show (20 : Int) ≠ 0 by omega)
  have hz1 := Int.emod_lt_of_pos most (show (0 : Int) < 20 by omega)
  generalize most % 20 = mz at hb hz0 hz1
  obtain ⟨mn, rfl⟩ : ∃ mn : Nat, mz = mn := ⟨mz.toNat, by omega⟩
  unfold gramV
  clear hM hl hl2 hw1 hbA
  go_wp2_with fail
  generalize w1.alloc (.cells #[.int .i64 g.terms, .int .i64 g.nons, .int .i64 g.start, .slice A' g.rules.length c'] 25) = w2 at hwA gg hrA hxA hb ⊢
  generalize w1.heap.size = bg at gg ⊢
  refine hb.mono ?_
  rintro e2 w2' ⟨rfl, rfl⟩
  have hof := of_any _ hv (by omega) w2' hcap hok hrA hxA
  unfold gramV at hof
  have k0 := blk_cell gg (i := 0) rfl
  have k1 := blk_cell gg (i := 1) rfl
  have k2 := blk_cell gg (i := 2) rfl
  have k3 := blk_cell gg (i := 3) rfl
  clear hb
  go_wp2_with fail
  refine hof.mono ?_
  rintro e4 w4 ⟨M, N4, cn4, hIM, rfl, hb4, hs4⟩
  obtain ⟨ts, err, hTR⟩ := tr_ex g x M mn
  have hfw := madeN_few (M := M) hsm (show x.length ≤ 8 by omega)
  have hea := made_ok (M := M) hsm (show x.length ≤ 8 by omega)
  rw [hea]
  have hbX := below1 w4 (.cells #[.slice N4 (madeF g x M).1.nodes.length cn4, .int .i64 (madeF g x M).1.root] 31)
  have gx := heap_alloc_new w4 (.cells #[.slice N4 (madeF g x M).1.nodes.length cn4, .int .i64 (madeF g x M).1.root] 31)
  have hbW := hb4.trans (hbX.mono hb4.size)
  have gg5 := blk_below hbW (blk_lt gg) gg
  have hr5 := hrA.below hbW
  have hx5w := hxA.below hbW
  have hs5 := (hs4.below hbX).weak (G := fun _ => True) fun _ _ => trivial
  have hw5 := hwA.trans (hbW.mono hwA.size)
  have hboth : (∀ W, Below (w4.alloc (.cells #[.slice N4 (madeF g x M).1.nodes.length cn4, .int .i64 (madeF g x M).1.root] 31)).heap.size (w4.alloc (.cells #[.slice N4 (madeF g x M).1.nodes.length cn4, .int .i64 (madeF g x M).1.root] 31)) W → Calls Tryz.prog 7 #[gramV g (.slice A' g.rules.length c'), .agg #[.slice N4 (madeF g x M).1.nodes.length cn4, .int .i64 (madeF g x M).1.root]] W fun e w' => e = .returned (.tuple #[.int .i64 (cntU g x M), .int .i64 0]) ∧ Below W.heap.size W w') ∧
      (∀ W, Below (w4.alloc (.cells #[.slice N4 (madeF g x M).1.nodes.length cn4, .int .i64 (madeF g x M).1.root] 31)).heap.size (w4.alloc (.cells #[.slice N4 (madeF g x M).1.nodes.length cn4, .int .i64 (madeF g x M).1.root] 31)) W → Calls Tryz.prog 9 #[gramV g (.slice A' g.rules.length c'), .agg #[.slice N4 (madeF g x M).1.nodes.length cn4, .int .i64 (madeF g x M).1.root], .int .i64 mn] W fun e w' => ∃ A c, e = .returned (.tuple #[.slice A ts.length c, .int .i64 err]) ∧ IsSl Elt.tree (fun _ => True) w' (.slice A ts.length c) ts ∧ Below W.heap.size W w') := by
    cases hbit : (entry M g.start 0).testBit x.length
    · have he := made_empty (g := g) (x := x) (M := M) hbit
      have hc0 : cntU g x M = 0 := by unfold cntU; rw [if_neg (by rw [hbit]; decide)]
      have hts : ts = [] ∧ err = 0 := by
        rcases hTR with ⟨_, h1, h2⟩ | ⟨h1, _⟩
        · exact ⟨h1, h2⟩
        · exact absurd hc0 h1
      obtain ⟨rfl, rfl⟩ := hts
      rw [hc0]
      refine ⟨fun W hW => ?_, fun W hW => ?_⟩
      · rw [he] at hW ⊢
        exact fCountNone_any hv W hcap ((by rw [he] at hr5; exact hr5 : IsSl Elt.rule _ _ _ _).below hW)
      · rw [he] at hW ⊢
        refine (fTreesNone_any hv W hcap ((by rw [he] at hr5; exact hr5 : IsSl Elt.rule _ _ _ _).below hW) mn (by omega)).mono ?_
        rintro e5 w5 ⟨rfl, hb5⟩
        exact ⟨none, 0, rfl, ⟨none, 0, rfl, by simp, fun k hk => by simp at hk⟩, hb5⟩
    · obtain ⟨rn, r, h1, ⟨h2, h3⟩, h4, h5⟩ := made_count hsm (by omega) hIM hbit
      have h6 := word_made hsm (by omega) hIM hbit
      have h7 := made_kids hsm (by omega) hIM hbit
      have h8 : madeF g x M = ((madeF g x M).1, 0) := by rw [← hea]
      refine ⟨fun W hW => ?_, fun W hW => ?_⟩
      · have := fCount_any (N := N4) (cn := cn4) hv (show x.length ≤ 12 by omega) W hcap hok (hr5.below hW) hIM (madeF g x M).1 h8 rn h1 h2 h3 h6 (hs5.below hW) (fun nd a q b k d => (h7 nd a q b k d).1) _ r h4 (by omega)
        rw [h5] at this
        exact this
      · exact fTrees_any (N := N4) (cn := cn4) hv (show x.length ≤ 12 by omega) W hcap hok (hr5.below hW) hIM (madeF g x M).1 h8 rn h1 h2 h3 h6 (hs5.below hW) mn (by omega) hTR
  have f0 := blk_cell gx (i := 0) rfl
  have f1 := blk_cell gx (i := 1) rfl
  have k0 := blk_cell gg5 (i := 0) rfl
  have k1 := blk_cell gg5 (i := 1) rfl
  have k2 := blk_cell gg5 (i := 2) rfl
  have k3 := blk_cell gg5 (i := 3) rfl
  unfold gramV at hboth
  generalize (madeF g x M).1.nodes.length = nl at hboth gx hr5 hx5w hw5 gg5 f0 f1 k0 k1 k2 k3 ⊢
  generalize (madeF g x M).1.root = rt at hboth gx hr5 hx5w hw5 gg5 f0 f1 k0 k1 k2 k3 ⊢
  obtain ⟨hco, htr⟩ := hboth
  have HIM := Lib.hid hIM
  have HTR := Lib.hid hTR
  have HCO := Lib.hid hco
  have HTT := Lib.hid htr
  clear hof hrA hxA hs4 hwA hb4 hbX hbW hs5 hea hfw hIM hTR hco htr gg
  generalize hcu : cntU g x M = cu at HCO
  have HCU := Lib.hid hcu
  clear hcu
  go_wp2_with fail
  generalize w4.alloc (.cells #[.slice N4 nl cn4, .int .i64 rt] 31) = w5 at HCO HTT gx hr5 hx5w hw5 gg5 f0 f1 k0 k1 k2 k3 ⊢
  generalize w4.heap.size = bx at gx f0 f1 ⊢
  refine (HCO.out w5 (Below.refl _ _)).mono ?_
  rintro e6 w6 ⟨rfl, hb6⟩
  have gx6 := blk_below hb6 (blk_lt gx) gx
  have gg6 := blk_below hb6 (blk_lt gg5) gg5
  have hmc := mcount_any _ hv (by omega) w6 hcap hok (hr5.below hb6) (hx5w.below hb6)
  unfold gramV at hmc
  replace k0 := blk_cell gg6 (i := 0) rfl
  replace k1 := blk_cell gg6 (i := 1) rfl
  replace k2 := blk_cell gg6 (i := 2) rfl
  replace k3 := blk_cell gg6 (i := 3) rfl
  clear f0 f1
  go_wp2_with fail
  refine hmc.mono ?_
  rintro e7 w7 ⟨M2, hM2, rfl, hb7⟩
  obtain rfl : M2 = M := hM2.unique HIM.out
  rw [HCU.out]
  have hb67 := hb6.trans (hb7.mono hb6.size)
  have gx7 := blk_below hb67 (blk_lt gx) gx
  have gg7 := blk_below hb67 (blk_lt gg5) gg5
  have f0 := blk_cell gx7 (i := 0) rfl
  have f1 := blk_cell gx7 (i := 1) rfl
  replace k0 := blk_cell gg7 (i := 0) rfl
  replace k1 := blk_cell gg7 (i := 1) rfl
  replace k2 := blk_cell gg7 (i := 2) rfl
  replace k3 := blk_cell gg7 (i := 3) rfl
  clear hmc hM2
  go_wp2_with fail
  refine (HTT.out w7 hb67).mono ?_
  rintro e8 w8 ⟨As, cs, rfl, hss, hb8⟩
  have hb68 := hb67.trans (hb8.mono hb67.size)
  have gg8 := blk_below hb68 (blk_lt gg5) gg5
  have htn := treesN_any _ hv (by omega) w8 hcap hok (hr5.below hb68) (hx5w.below hb68) mn (by omega) HIM.out HTR.out
  unfold gramV at htn
  replace k0 := blk_cell gg8 (i := 0) rfl
  replace k1 := blk_cell gg8 (i := 1) rfl
  replace k2 := blk_cell gg8 (i := 2) rfl
  replace k3 := blk_cell gg8 (i := 3) rfl
  clear f0 f1
  go_wp2_with fail
  refine htn.mono ?_
  rintro e9 w9 ⟨At, ct, rfl, hct, hst, hb9⟩
  have hs9 := hss.below hb9
  have hw9 := hw5.trans ((hb68.trans (hb9.mono hb68.size)).mono hw5.size)
  have hwo := woods_any w9
  have hee : (err == err) = true := by simp
  have hcc : (cu == cu) = true := by simp
  clear htn k0 k1 k2 k3 hss
  go_wp2_with fail
  refine hwo.mono ?_
  rintro e10 w10 ⟨rfl, hb10⟩
  have heq := eqTree_any _ _ ts As cs At ct w10 (hs9.below hb10) (hst.below hb10)
  have HEQ := Lib.hid heq
  have hw10 := hw9.trans (hb10.mono hw9.size)
  clear heq hs9 hst hwo hb10
  go_wp2_with fail
  with_reducible refine HEQ.out.mono ?_
  rintro e11 w11 ⟨rfl, hb11⟩
  go_wp2_with fail
  go_ret
  exact ⟨rfl, hw10.trans (hb11.mono hw10.size)⟩
end Go.Proofs.YtdbkbkopcnkgcaaGreat
