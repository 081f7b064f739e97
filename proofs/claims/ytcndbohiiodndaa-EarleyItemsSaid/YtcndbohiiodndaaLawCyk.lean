import Derived.Test.YtcndbohiiodndaaCykWX
import Derived.Test.YtcndbohiiodndaaDoub
import Derived.Test.YtcndbohiiodndaaEqualI
import Derived.Test.YtcndbohiiodndaaMade
open Go Go.RowKit
namespace Go.Proofs.Ytcndbohiiodndaa

theorem doub_parts : PartsOf doubG [0, 0] 1 2 [0] := by
  refine ⟨by simp, fun n => ?_⟩
  simp only [List.mem_singleton]
  constructor
  · rintro rfl
    exact ⟨by omega, by decide, doub_one [0, 0] 1 rfl⟩
  · rintro ⟨h1, h2, _⟩
    have : n < 1 := h2
    omega

theorem zeros_sl {w : World} {n : Nat} {l : List Int} (T : TypeId) (hl : l.length = n) (hn : n ≤ 9223372036854775807) : IsSl Elt.int (fun b => w.heap.size ≤ b) (w.alloc (.cells (l.map (Value.int .i64)).toArray T)) (.slice (some ⟨w.heap.size, 0, none⟩) n n) l :=
  sl_of_blk (enc := Value.int .i64) _ (Nat.le_refl _) (heap_alloc_new w _) hl.symm hn

set_option maxRecDepth 100000 in
set_option maxHeartbeats 1600000 in
theorem charts_any (w : World) : Calls Try.prog 39 #[] w fun e w' => e = .returned (.bool true) ∧ Below w.heap.size w w' := by
  have hok : OkWord doubG [0, 0] := by
    intro t ht
    simp at ht
    subst ht
    exact ⟨by decide, by decide⟩
  go_enter Try.func39, Try.ntmps39
  go_wp2_with fail
  refine (doubling_any w).mono ?_
  rintro e1 w1 ⟨A, rfl, hb1, hr1⟩
  have hxA := zeros_sl (w := w1) (l := [0, 0]) 3 rfl (by decide)
  have hbA := below1 w1 (.cells (([0, 0] : List Int).map (Value.int .i64)).toArray 3)
  have hfo := cykForest_any (g := doubG) (x := [0, 0]) (fun _ => True) _ ((hr1.below hbA).weak fun _ _ => trivial) (hxA.weak fun _ _ => trivial) doub_valid (by decide) hok (by decide)
  have hwA := hb1.trans (hbA.mono hb1.size)
  unfold gramV at hfo ⊢
  clear hxA hr1
  go_wp2_with fail
  refine hfo.mono ?_
  rintro e2 w2 ⟨M, Q, cn, hM, rfl, hb2, hs2⟩
  obtain rfl := doub_isM.unique hM
  have hw2 := hwA.trans (hb2.mono hwA.size)
  clear hfo hM hs2 hwA hbA hb1 hb2
  obtain ⟨hl0, hl5⟩ := doub_made
  generalize (madeF doubG [0, 0] doubM).1.nodes.length = ln at *
  generalize (madeF doubG [0, 0] doubM).1.root = rt at *
  generalize (madeF doubG [0, 0] doubM).2 = er at *
  subst hl0
  subst hl5
  have hfa := heap_alloc_new w2 (.cells #[.slice Q 5 cn, .int .i64 rt] 101)
  have hbB := below1 w2 (.cells #[.slice Q 5 cn, .int .i64 rt] 101)
  have hwB := hw2.trans (hbB.mono hw2.size)
  go_wp2_with fail
  refine (doubling_any _).mono ?_
  rintro e3 w3 ⟨A', rfl, hb3, hr3⟩
  have hf3 := blk_below hb3 (blk_lt hfa) hfa
  have hw3 := hwB.trans (hb3.mono hwB.size)
  have hxB := zeros_sl (w := w3) (l := [0, 0]) 3 rfl (by decide)
  have hbC := below1 w3 (.cells (([0, 0] : List Int).map (Value.int .i64)).toArray 3)
  have hf4 := blk_below hbC (blk_lt hf3) hf3
  have hw4 := hw3.trans (hbC.mono hw3.size)
  have hpt := parts_any (g := doubG) (x := [0, 0]) (fun _ => True) 1 2 _ ((hr3.below hbC).weak fun _ _ => trivial) (hxB.weak fun _ _ => trivial) doub_valid (by decide) hok (by decide) (by decide) (by decide) (by decide)
  unfold gramV at hpt ⊢
  clear hfa hbB hwB hb3 hr3 hf3 hxB hbC hw3 hw2
  go_wp2_with fail
  refine hpt.mono ?_
  rintro e5 w5 ⟨l, C, cc, rfl, hP, hb5, hs5⟩
  obtain rfl := doub_parts.unique hP (fun _ => Iff.rfl)
  have hf5 := blk_below hb5 (blk_lt hf4) hf4
  have hw5 := hw4.trans (hb5.mono hw4.size)
  have hbD := below1 w5 (.cells (([0] : List Int).map (Value.int .i64)).toArray 3)
  have hxD := zeros_sl (w := w5) (l := [0]) 3 rfl (by decide)
  have heq := equal_int _ _ [0] [0] C 1 cc (some ⟨w5.heap.size, 0, none⟩) 1 1 _ (hs5.below hbD) hxD
  rw [decide_eq_true (rfl : ([0] : List Int) = [0])] at heq
  have hw6 := hw5.trans (hbD.mono hw5.size)
  have q0 := blk_cell hf5 (i := 0) rfl
  have hfl := blk_lt hf5
  clear hpt hP hf4 hw4 hb5 hs5 hxD hbD hw5 hok
  go_wp2_with fail
  refine heq.mono ?_
  rintro e6 w6 ⟨rfl, hb6⟩
  go_wp2_with fail
  go_ret
  exact ⟨rfl, hw6.trans (hb6.mono hw6.size)⟩

/-- a part's nonterminals depend on the part alone -/
theorem parts_sub {g : Gram} {x : List Int} {i j : Nat} {l l' : List Int} (hij : i ≤ j) (hj : j ≤ x.length) (h : PartsOf g x i j l) (h' : PartsOf g ((x.drop i).take (j - i)) 0 (j - i) l') : l = l' :=
  h.unique h' fun n => by
    have := drv_part (g := g) (x := x) (i := i) (m := j - i) (by omega) (l := [⟨false, n⟩])
    rw [show i + (j - i) = j by omega] at this
    exact this.symm

set_option maxRecDepth 100000 in
set_option maxHeartbeats 4000000 in
theorem cykParts_any (F F2 : Nat → Prop) (l l2 : List Int) (A : Option Addr) (n c : Nat) (A2 : Option Addr) (n2 c2 : Nat) (ii jj : Int) (w : World) (hl : IsSl Elt.int F w (.slice A n c) l) (hl2 : IsSl Elt.int F2 w (.slice A2 n2 c2) l2) (hnc : n ≤ c) :
    Calls Try.prog 6 #[.slice A n c, .slice A2 n2 c2, .int .i64 ii, .int .i64 jj] w fun e w' => e = .returned (.bool true) ∧ Below w.heap.size w w' := by
  go_enter Try.func6, Try.ntmps6
  go_wp2_with fail
  refine (made_any F F2 l l2 A n c A2 n2 c2 8 w hl hl2 hnc (by decide)).mono ?_
  rintro e1 w1 ⟨g, A', c', x, C, cx, rfl, hM⟩
  have hv := hM.small.valid
  have hx8 := hM.most
  have hcap := hM.cap
  have hcx := hM.capx
  have hok : OkWord g x := hM.terms
  have hbA := below1 w1 (.cells #[.int .i64 g.terms, .int .i64 g.nons, .int .i64 g.start, .slice A' g.rules.length c'] 25)
  have hgb := heap_alloc_new w1 (.cells #[.int .i64 g.terms, .int .i64 g.nons, .int .i64 g.start, .slice A' g.rules.length c'] 25)
  have hrA := hM.rules.below hbA
  have hxA := hM.word.below hbA
  have hwA := hM.below.trans (hbA.mono hM.below.size)
  unfold gramV
  clear hM hl hl2 hbA
  go_wp2_with fail
  generalize w1.alloc (.cells #[.int .i64 g.terms, .int .i64 g.nons, .int .i64 g.start, .slice A' g.rules.length c'] 25) = WA at hgb hrA hxA hwA ⊢
  refine (below_int ii ((x.length : Int) + 1) _ (by omega)).mono ?_
  rintro e2 w2 ⟨rfl, rfl⟩
  have hi0 := Int.emod_nonneg ii (show (x.length : Int) + 1 ≠ 0 by omega)
  have hi1 := Int.emod_lt_of_pos ii (show 0 < (x.length : Int) + 1 by omega)
  generalize ii % ((x.length : Int) + 1) = i0 at hi0 hi1 ⊢
  obtain ⟨i, rfl⟩ := Int.eq_ofNat_of_zero_le hi0
  go_wp2_with fail
  refine (below_int jj ((x.length : Int) - i + 1) _ (by omega)).mono ?_
  rintro e3 w3 ⟨rfl, rfl⟩
  have hj0 := Int.emod_nonneg jj (show (x.length : Int) - i + 1 ≠ 0 by omega)
  have hj1 := Int.emod_lt_of_pos jj (show 0 < (x.length : Int) - i + 1 by omega)
  generalize jj % ((x.length : Int) - i + 1) = j0 at hj0 hj1 ⊢
  obtain ⟨k, rfl⟩ := Int.eq_ofNat_of_zero_le hj0
  have hik : i + k ≤ x.length := by omega
  clear hi0 hi1 hj0 hj1
  have hp1 := parts_any _ i (i + k) w3 hrA hxA hv hcap hok (by omega) hcx (Nat.le_add_right i k) hik
  obtain ⟨B2, hsl, hxp⟩ := run_part_sl (P := Try.prog) Try.underlying22 Try.sizeInt rfl hxA hcx i (i + k) (Nat.le_add_right i k) hik
  unfold gramV at hp1
  rw [Nat.add_sub_cancel_left] at hsl hxp
  simp only [Int.natCast_add] at hp1 hsl
  have hgl := blk_lt hgb
  have k0 := blk_cell hgb (i := 0) rfl
  have k1 := blk_cell hgb (i := 1) rfl
  have k2 := blk_cell hgb (i := 2) rfl
  have k3 := blk_cell hgb (i := 3) rfl
  have hikz : (i : Int) + (k : Int) ≤ (x.length : Int) := by omega
  go_wp2_with fail
  refine hp1.mono ?_
  rintro e4 w4 ⟨la, Ca, ca, rfl, hPa, hb4, hsa⟩
  have hg4 := blk_below hb4 hgl hgb
  have hr4 := hrA.below hb4
  have hx4 := hxA.below hb4
  have hxp4 := hxp.below hb4
  have hw4 := hwA.trans (hb4.mono hwA.size)
  clear hp1 k0 k1 k2 k3 hrA hxA hxp hgb hwA hb4
  have k0 := blk_cell hg4 (i := 0) rfl
  have k1 := blk_cell hg4 (i := 1) rfl
  have k2 := blk_cell hg4 (i := 2) rfl
  have k3 := blk_cell hg4 (i := 3) rfl
  have hokp : OkWord g ((x.drop i).take k) := fun t ht => hok t (List.mem_of_mem_drop (List.mem_of_mem_take ht))
  have hxl : ((x.drop i).take k).length = k := by rw [List.length_take, List.length_drop]; omega
  have hp2 : ∀ W : World, Below w4.heap.size w4 W → Calls Try.prog 38 #[gramV g (.slice A' g.rules.length c'), .slice B2 k (cx - i), .int .i64 0, .int .i64 k] W fun e w' => PartsEnd W w' e g ((x.drop i).take k) 0 k := fun W hW => by
    have := parts_any (g := g) (x := (x.drop i).take k) (A := A') (c := c') (B := B2) (d := cx - i) (fun _ => True) 0 k W ((hr4.below hW).weak fun _ _ => trivial) (by rw [hxl]; exact (hxp4.below hW).weak fun _ _ => trivial) hv hcap hokp (by rw [hxl]; omega) (by rw [hxl]; omega) (by omega) (by rw [hxl]; omega)
    rwa [hxl] at this
  unfold gramV at hp2
  have HP2 := Lib.hid hp2
  clear hp2 hxp4
  go_wp2_with fail
  have hwrp : IntKind.i64.wrap ((i : Int) + (k : Int) - (i : Int)) = (k : Int) := by rw [IntWalk.i64_in _ (by omega)]; omega
  go_cut [12, 13] (fun s12 s13 wx => ∃ lb Cb cb, s12 = .slice Cb lb.length cb ∧ s13 = .int .i64 0 ∧ PartsOf g ((x.drop i).take k) 0 k lb ∧ Below w4.heap.size w4 wx ∧ IsSl Elt.int (fun b => w4.heap.size ≤ b) wx (.slice Cb lb.length cb) lb)
  case first =>
    go_region_law (first | (refine step_call rfl 38 Try.f38 Try.func38 (by kernel_rfl) (by kernel_rfl) [_, _, _, _] _ rfl [.agg #[.int .i64 g.terms, .int .i64 g.nons, .int .i64 g.start, .slice A' g.rules.length c'], .slice B2 k (cx - i), .int .i64 0, .int .i64 k] rfl _ (HP2.out _ (Below.refl _ _).drew) ?_; rintro e5 w5 ⟨lb, Cb, cb, rfl, hPb, hb5, hsb⟩; refine ⟨_, rfl, ?_⟩))
    all_goals
      clear hwrp
      go_wp2_with fail
      go_meet
      exact ⟨lb, Cb, cb, rfl, rfl, hPb, (Below.refl _ w4).drew.trans hb5, hsb⟩
  case rest =>
  obtain ⟨lb, Cb, cb, rfl, rfl, hPb, hb5, hsb⟩ := hcut
  obtain rfl : la = lb := by
    have := parts_sub (g := g) (x := x) (i := i) (j := i + k) (l := la) (l' := lb) (Nat.le_add_right i k) hik hPa (by rw [Nat.add_sub_cancel_left]; exact hPb)
    exact this
  clear hwrp k0 k1 k2 k3 HP2 hPb
  have hg5 := blk_below hb5 (blk_lt hg4) hg4
  have hr5 := hr4.below hb5
  have hx5 := hx4.below hb5
  have hw5 := hw4.trans (hb5.mono hw4.size)
  have hsa5 := hsa.below hb5
  clear hg4 hr4 hx4 hw4 hsa hb5
  have k0 := blk_cell hg5 (i := 0) rfl
  have k1 := blk_cell hg5 (i := 1) rfl
  have k2 := blk_cell hg5 (i := 2) rfl
  have k3 := blk_cell hg5 (i := 3) rfl
  have hp3 : Calls Try.prog 38 #[gramV g (.slice A' g.rules.length c'), .slice C x.length cx, .int .i64 0, .int .i64 x.length] wc fun e w' => PartsEnd wc w' e g x 0 x.length := parts_any _ 0 x.length wc hr5 hx5 hv hcap hok (by omega) hcx (Nat.zero_le _) (Nat.le_refl _)
  unfold gramV at hp3
  go_wp2_with fail
  refine hp3.mono ?_
  rintro e6 w6 ⟨lc, Cc, cc, rfl, hPc, hb6, hsc⟩
  have hg6 := blk_below hb6 (blk_lt hg5) hg5
  have hr6 := hr5.below hb6
  have hx6 := hx5.below hb6
  have hw6 := hw5.trans (hb6.mono hw5.size)
  have hsa6 := hsa5.below hb6
  have hsb6 := hsb.below hb6
  clear hp3 hg5 hr5 hx5 hw5 hsa5 hsb hb6 k0 k1 k2 k3
  have k0 := blk_cell hg6 (i := 0) rfl
  have k1 := blk_cell hg6 (i := 1) rfl
  have k2 := blk_cell hg6 (i := 2) rfl
  have k3 := blk_cell hg6 (i := 3) rfl
  have hacc := accepts_any _ g A' _ c' x C _ cx w6 hr6 hv hcap hx6 hok (by omega)
  unfold gramV at hacc
  go_wp2_with fail
  refine hacc.mono ?_
  rintro e7 w7 ⟨ok, rfl, hokw, hb7⟩
  have hw7 := hw6.trans (hb7.mono hw6.size)
  have hg7 := blk_below hb7 (blk_lt hg6) hg6
  have hsa7 := hsa6.below hb7
  have hsb7 := hsb6.below hb7
  have hsc7 := hsc.below hb7
  have hok2 : ok = decide (g.start ∈ lc) := by
    have h0 := hv.s0
    have h1 := hv.s1
    have hiff : ok = true ↔ g.start ∈ lc := by
      rw [hokw, hPc.2]
      exact ⟨fun h => ⟨h0, h1, h⟩, fun h => h.2.2⟩
    cases ok <;> simp_all
  subst hok2
  clear hacc hg6 hr6 hx6 hw6 hsa6 hsb6 hsc hb7 k0 k1 k2 k3 hokw
  go_wp2_with fail
  refine (charts_any w7).mono ?_
  rintro e8 w8 ⟨rfl, hb8⟩
  have hw8 := hw7.trans (hb8.mono hw7.size)
  have hg8 := blk_below hb8 (blk_lt hg7) hg7
  have hsc8 := hsc7.below hb8
  have heq := equal_int _ _ la la Ca _ ca Cb _ cb w8 (hsa7.below hb8) (hsb7.below hb8)
  rw [decide_eq_true (rfl : la = la)] at heq
  clear hg7 hsa7 hsb7 hsc7 hb8 hw7
  go_wp2_with fail
  refine heq.mono ?_
  rintro e9 w9 ⟨rfl, hb9⟩
  have hw9 := hw8.trans (hb9.mono hw8.size)
  have hg9 := blk_below hb9 (blk_lt hg8) hg8
  have hcon := contains_int _ lc g.start Cc _ cc w9 (hsc8.below hb9)
  have k2 := blk_cell hg9 (i := 2) rfl
  clear heq hg8 hsc8 hb9 hw8
  go_wp2_with fail
  refine hcon.mono ?_
  rintro e10 w10 ⟨rfl, rfl⟩
  generalize decide (g.start ∈ lc) = bb
  have hbb : (bb == bb) = true := by simp
  go_wp2_with fail
  go_ret
  exact ⟨rfl, hw9⟩
end Go.Proofs.Ytcndbohiiodndaa
