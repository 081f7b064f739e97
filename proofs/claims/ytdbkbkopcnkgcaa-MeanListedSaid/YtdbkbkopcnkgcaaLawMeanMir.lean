import Derived.Test.YtdbkbkopcnkgcaaMeanCount
import Derived.Test.YtdbkbkopcnkgcaaNodeMir
open Go Go.RowKit
namespace Go.Proofs.Ytdbkbkopcnkgcaa

/-! ### the law MeanMirrored, over the fact means() -/
def MeansOk : Prop := ∀ w : World, Calls Try.prog 34 #[] w fun e w' => e = .returned (.bool true) ∧ Below w.heap.size w w'

set_option maxRecDepth 100000 in
set_option maxHeartbeats 3200000 in
theorem meanMirrored_any (hme : MeansOk) (F F2 : Nat → Prop) (l l2 : List Int) (A : Option Addr) (n c : Nat) (A2 : Option Addr) (n2 c2 : Nat) (w : World) (hl : IsSl Elt.int F w (.slice A n c) l) (hl2 : IsSl Elt.int F2 w (.slice A2 n2 c2) l2) (hnc : n ≤ c) :
    Calls Try.prog 9 #[.slice A n c, .slice A2 n2 c2] w fun e w' => e = .returned (.bool true) ∧ Below w.heap.size w w' := by
  have HME := Lib.hid hme
  clear hme
  go_enter Try.func9, Try.ntmps9
  go_wp2_with fail
  refine (made_any F F2 l l2 A n c A2 n2 c2 6 _ hl hl2 hnc (by decide)).mono ?_
  rintro e1 w1 ⟨g, A', c', x, C, cx, rfl, hM⟩
  have hv := hM.small.valid
  have hx6 := hM.most
  have hcap := hM.cap
  have hcx := hM.capx
  have hok : OkWord g x := hM.terms
  have hw1 := hM.below
  have hbA := below1 w1 (.cells #[.int .i64 g.terms, .int .i64 g.nons, .int .i64 g.start, .slice A' g.rules.length c'] 25)
  have gg := heap_alloc_new w1 (.cells #[.int .i64 g.terms, .int .i64 g.nons, .int .i64 g.start, .slice A' g.rules.length c'] 25)
  have hrA := (hM.rules.below hbA).weak (G := fun _ => True) fun _ _ => trivial
  have hxA := (hM.word.below hbA).weak (G := fun _ => True) fun _ _ => trivial
  have hwA := hw1.trans (hbA.mono hw1.size)
  unfold gramV
  clear hM hl hl2 hw1 hbA
  have hcl := clone_ints _ x C _ cx _ hxA (by omega)
  go_wp2_with fail
  generalize w1.alloc (.cells #[.int .i64 g.terms, .int .i64 g.nons, .int .i64 g.start, .slice A' g.rules.length c'] 25) = W at hwA gg hrA hxA hcl ⊢
  generalize w1.heap.size = bg at gg ⊢
  refine hcl.mono ?_
  rintro e2 w2 ⟨A9, c9, rfl, hb2, hown⟩
  have hrev := rev_clone hown (by omega)
  have gg2 := blk_below hb2 (blk_lt gg) gg
  have hgl := blk_lt gg
  have hs2 := hb2.size
  have hw2 := hwA.trans (hb2.mono hwA.size)
  clear hcl hown
  go_wp2_with fail
  refine hrev.mono ?_
  rintro e3 w3 ⟨rfl, hs3, hb3⟩
  have gg3 := (hb3.block _ hgl).trans gg2
  have hr3 : IsSl Elt.rule (fun b => b < W.heap.size) w3 (.slice A' g.rules.length c') g.rules := (((hrA.old.weak (G := fun b => b < W.heap.size) fun b hb => hb.2).keep (fun b hb => hb2.block b hb) hs2).keep (fun b hb => hb3.block b hb) hb3.size)
  have hx3 : IsSl Elt.int (fun b => b < W.heap.size) w3 (.slice C x.length cx) x := (((hxA.old.weak (G := fun b => b < W.heap.size) fun b hb => hb.2).keep (fun b hb => hb2.block b hb) hs2).keep (fun b hb => hb3.block b hb) hb3.size)
  have hw3 : Below w.heap.size w w3 := hw2.trans (hb3.mono hwA.size)
  have hof := mcount_any (fun b => b < W.heap.size) hv (by omega) w3 hcap hok hr3 hx3
  unfold gramV at hof
  have k0 := blk_cell gg3 (i := 0) rfl
  have k1 := blk_cell gg3 (i := 1) rfl
  have k2 := blk_cell gg3 (i := 2) rfl
  have k3 := blk_cell gg3 (i := 3) rfl
  clear hrev gg2 hw2 hb2 hb3 gg hrA hxA
  go_wp2_with fail
  refine hof.mono ?_
  rintro e4 w4 ⟨M, hIM, rfl, hb4⟩
  have gg5 := blk_below hb4 (blk_lt gg3) gg3
  have hr5 := hr3.below hb4
  have hv5 := hs3.below hb4
  have hw5 := hw3.trans (hb4.mono hw3.size)
  have hmg := mirrored_any _ g A' c' _ hr5 hv
  unfold gramV at hmg
  generalize hcv : cntU g x M = cv
  have HCV := Lib.hid hcv
  clear hof k0 k1 k2 k3 gg3 hr3 hx3 hs3 hw3 hb4 hcv
  have k0 := blk_cell gg5 (i := 0) rfl
  have k1 := blk_cell gg5 (i := 1) rfl
  have k2 := blk_cell gg5 (i := 2) rfl
  have k3 := blk_cell gg5 (i := 3) rfl
  go_wp2_with fail
  refine hmg.mono ?_
  rintro e6 w6 ⟨A6, c6, rfl, hb6, hcap6, hs6⟩
  have hlen : (mirG g).rules.length = g.rules.length := by simp [mirG]
  have hvm := mir_valid hv
  have hokm : OkWord (mirG g) x.reverse := fun t ht => hok t (by simpa using ht)
  have hof2 := mcount_any (g := mirG g) (x := x.reverse) (A := A6) (c := c6) (B := A9) (d := c9) (fun _ => True) hvm (by rw [List.length_reverse]; omega) w6 (by rw [hlen]; exact hcap6) hokm (by rw [hlen]; exact hs6.weak fun _ _ => trivial) (by rw [List.length_reverse]; exact (hv5.below hb6).weak fun _ _ => trivial)
  rw [hlen, List.length_reverse] at hof2
  unfold gramV at hof2
  have hw6 := hw5.trans (hb6.mono hw5.size)
  clear hmg k0 k1 k2 k3 gg5 hr5 hv5 hw5 hs6 hb6
  go_wp2_with fail
  refine hof2.mono ?_
  rintro e7 w7 ⟨M', hIM', rfl, hb7⟩
  have hmir : Mir g x M (mirG g) x.reverse M' := ⟨rfl, rfl, hIM, hIM'⟩
  rw [← hmir.count hv, HCV.out]
  have hw7 := hw6.trans (hb7.mono hw6.size)
  clear hof2 hw6 hb7
  go_wp2_with fail
  refine (HME.out w7).mono ?_
  rintro e9 w9 ⟨rfl, hb9⟩
  go_wp2_with fail
  go_ret
  exact ⟨rfl, hw7.trans (hb9.mono hw7.size)⟩
end Go.Proofs.Ytdbkbkopcnkgcaa
