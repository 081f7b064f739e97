import Derived.Test.YtcndbohiiodndaaLawCyk
import Derived.Test.YtcndbohiiodndaaBehind
open Go Go.RowKit
namespace Go.Proofs.Ytcndbohiiodndaa

/-- a symbol derives a part of the word -/
def HasP (g : Gram) (x : List Int) (y : Sym) (i j : Nat) : Prop := if y.t = true then j = i + 1 ∧ x[i]? = some y.n else Drv g x [y] i j

theorem hasP_drv {g : Gram} {x : List Int} {y : Sym} {i j : Nat} (h : HasP g x y i j) : Drv g x [y] i j := by
  obtain ⟨t, n⟩ := y
  unfold HasP at h
  cases t
  · simpa using h
  · simp only [if_true] at h
    obtain ⟨rfl, h⟩ := h
    exact .term h (.nil _ (by have := (List.getElem?_eq_some_iff.1 h).1; omega))

section
variable {g : Gram} {x : List Int} {A : Option Addr} {c : Nat} {C : Option Addr} {cx : Nat} {F : Nat → Prop}

/-- the word and the grammar that the closure captured -/
structure Caught (F : Nat → Prop) (w : World) (b5 b9 : Nat) (g : Gram) (x : List Int) (A : Option Addr) (c : Nat) (C : Option Addr) (cx : Nat) : Prop where
  word : w.heap[b5]? = some (.cells #[.slice C x.length cx] 22 (0, 0))
  gram : w.heap[b9]? = some (.cells #[.int .i64 g.terms, .int .i64 g.nons, .int .i64 g.start, .slice A g.rules.length c] 25 (0, 0))
  rules : IsSl Elt.rule F w (.slice A g.rules.length c) g.rules
  xs : IsSl Elt.int F w (.slice C x.length cx) x
theorem Caught.below {w w' : World} {b5 b9 : Nat} (h : Caught F w b5 b9 g x A c C cx) (hb : Below w.heap.size w w') : Caught F w' b5 b9 g x A c C cx :=
  ⟨blk_below hb (blk_lt h.word) h.word, blk_below hb (blk_lt h.gram) h.gram, h.rules.below hb, h.xs.below hb⟩

set_option maxRecDepth 100000 in
set_option maxHeartbeats 1600000 in
theorem hasC_any (y : Sym) (i j : Nat) (b5 b9 : Nat) (w : World) (h : Caught F w b5 b9 g x A c C cx) (hv : Valid g) (hc : g.rules.length ≤ c) (ho : OkWord g x) (hm : x.length ≤ 12) (hcx : x.length ≤ cx) (hij : i ≤ j) (hj : j ≤ x.length) (hy : OkSym g y) :
    Calls Try.prog 42 #[symV y, .int .i64 i, .int .i64 j, .pointer (some ⟨b5, 0, none⟩), .pointer (some ⟨b9, 0, none⟩)] w fun e w' => (∃ b : Bool, e = .returned (.bool b) ∧ (b = true ↔ HasP g x y i j)) ∧ Below w.heap.size w w' := by
  unfold symV
  obtain ⟨yt, yn⟩ := y
  have hkw := blk_cell h.word (i := 0) rfl
  have hk0 := blk_cell h.gram (i := 0) rfl
  have hk1 := blk_cell h.gram (i := 1) rfl
  have hk2 := blk_cell h.gram (i := 2) rfl
  have hk3 := blk_cell h.gram (i := 3) rfl
  have hlw := blk_lt h.word
  have hlg := blk_lt h.gram
  have hy0 := hy.n0
  simp only at hy0
  cases yt
  · go_enter Try.func42, Try.ntmps42
    go_wp2_with fail
    have hbA := below1 w (.cells #[.bool false, .int .i64 yn] 67)
    have hsb := heap_alloc_new w (.cells #[.bool false, .int .i64 yn] 67)
    have hp := parts_any F i j _ (h.rules.below hbA) (h.xs.below hbA) hv hc ho hm hcx hij hj
    unfold gramV at hp
    refine hp.mono ?_
    rintro e1 w1 ⟨l, D, cd, rfl, hP, hb1, hs1⟩
    have hsb1 := blk_below hb1 (blk_lt hsb) hsb
    have hs0 := blk_cell hsb1 (i := 1) rfl
    have hcon := contains_int _ l yn D _ cd w1 hs1
    have hw1 := hbA.trans (hb1.mono hbA.size)
    clear hp hbA hb1 hkw hk0 hk1 hk2 hk3
    go_wp2_with fail
    refine hcon.mono ?_
    rintro e2 w2 ⟨rfl, rfl⟩
    go_wp2_with fail
    go_ret
    refine ⟨⟨_, rfl, ?_⟩, hw1⟩
    have := hy.nn rfl
    simp only [decide_eq_true_eq, hP.2, HasP, Bool.false_eq_true, if_false]
    exact ⟨fun h => h.2.2, fun h => ⟨hy0, this, h⟩⟩
  · by_cases hji : j = i + 1
    · subst hji
      have hix : i < x.length := by omega
      obtain ⟨b3, o3, rfl, _, hl3, hc7⟩ := h.xs.oneAt i hix
      have e1 : (((i + 1 : Nat) : Int) == (i : Int) + 1) = true := by simp
      have hs : HasP g x ⟨true, yn⟩ i (i + 1) ↔ x[i] = yn := by
        simp [HasP, List.getElem?_eq_getElem hix]
      have HS := Lib.hid hs
      clear hs
      generalize x[i] = xi at hc7 HS
      have hiz : (i : Int) < (x.length : Int) := by omega
      go_enter Try.func42, Try.ntmps42
      go_wp2_with fail
      go_quiet (fail)
      go_wp2
      go_ret
      exact ⟨⟨_, rfl, by rw [HS.out]; simp⟩, below_drewN ((Below.refl _ _).alloc (Nat.le_refl _) _) _⟩
    · have e1 : ((j : Int) == (i : Int) + 1) = false := by simp; omega
      have hs : ¬ HasP g x ⟨true, yn⟩ i j := by simp [HasP, hji]
      have HS := Lib.hid hs
      clear hs
      go_enter Try.func42, Try.ntmps42
      go_wp2_with fail
      go_quiet (fail)
      go_wp2
      go_ret
      exact ⟨⟨_, rfl, by simp [HS.out]⟩, below_drewN ((Below.refl _ _).alloc (Nat.le_refl _) _) _⟩
end

theorem hasC_val {g : Gram} {x : List Int} {A : Option Addr} {c : Nat} {C : Option Addr} {cx : Nat} {F : Nat → Prop} (v : Bool) (y : Sym) (i j : Nat) (b5 b9 : Nat) (w : World) (h : Caught F w b5 b9 g x A c C cx) (hv : Valid g) (hc : g.rules.length ≤ c) (ho : OkWord g x) (hm : x.length ≤ 12) (hcx : x.length ≤ cx) (hij : i ≤ j) (hj : j ≤ x.length) (hy : OkSym g y) (hb : v = true ↔ HasP g x y i j) :
    Calls Try.prog 42 #[.agg #[.bool y.t, .int .i64 y.n], .int .i64 i, .int .i64 j, .pointer (some ⟨b5, 0, none⟩), .pointer (some ⟨b9, 0, none⟩)] w fun e w' => e = .returned (.bool v) ∧ Below w.heap.size w w' := by
  have := hasC_any y i j b5 b9 w h hv hc ho hm hcx hij hj hy
  unfold symV at this
  refine this.mono ?_
  rintro e w' ⟨⟨b, rfl, hb2⟩, hb3⟩
  have e : b = v := by
    have := hb2.trans hb.symm
    cases b <;> cases v <;> simp_all
  subst e
  exact ⟨rfl, hb3⟩

set_option maxRecDepth 100000 in
set_option maxHeartbeats 4000000 in
theorem cykJoins_any (F F2 : Nat → Prop) (l l2 : List Int) (A : Option Addr) (n c : Nat) (A2 : Option Addr) (n2 c2 : Nat) (rr cut : Int) (w : World) (hl : IsSl Elt.int F w (.slice A n c) l) (hl2 : IsSl Elt.int F2 w (.slice A2 n2 c2) l2) (hnc : n ≤ c) :
    Calls Try.prog 7 #[.slice A n c, .slice A2 n2 c2, .int .i64 rr, .int .i64 cut] w fun e w' => e = .returned (.bool true) ∧ Below w.heap.size w w' := by
  have hb0 := below1 w (.cells #[.slice A2 n2 c2] 22)
  have hk0 := heap_alloc_new w (.cells #[.slice A2 n2 c2] 22)
  have hf0 : (w.alloc (.cells #[.slice A2 n2 c2] 22)).frozen? ⟨w.heap.size, 0, none⟩ = false := blk_free hk0
  go_enter Try.func7, Try.ntmps7
  go_wp2_with fail
  refine (made_any F F2 l l2 A n c A2 n2 c2 7 _ (hl.below hb0) (hl2.below hb0) hnc (by decide)).mono ?_
  rintro e1 w1 ⟨g, A', c', x, C, cx, rfl, hM⟩
  have hv := hM.small.valid
  have hr1 := hM.small.r1
  have hx7 := hM.most
  have hcap := hM.cap
  have hcx := hM.capx
  have hok : OkWord g x := hM.terms
  have hk1 := blk_below hM.below (by rw [World.size_alloc]; omega) hk0
  have hw1 := hb0.trans (hM.below.mono hb0.size)
  have hl1 := blk_lt hk1
  have c0 := blk_cell hk1 (i := 0) rfl
  have f0 : w1.frozen? ⟨w.heap.size, 0, none⟩ = false := blk_free hk1
  have hwA : Below w.heap.size w ((w1.setCell ⟨w.heap.size, 0, none⟩ (.slice C x.length cx)).alloc (.cells #[.int .i64 g.terms, .int .i64 g.nons, .int .i64 g.start, .slice A' g.rules.length c'] 25)) := (hw1.setCell (p := ⟨w.heap.size, 0, none⟩) (Nat.le_refl _) _).alloc (by rw [size_setCell]; exact hw1.size) _
  have hsz1 : (w1.setCell ⟨w.heap.size, 0, none⟩ (.slice C x.length cx)).heap.size = w1.heap.size := size_setCell _ _ _
  have hca : Caught (fun b => b ≠ w.heap.size) ((w1.setCell ⟨w.heap.size, 0, none⟩ (.slice C x.length cx)).alloc (.cells #[.int .i64 g.terms, .int .i64 g.nons, .int .i64 g.start, .slice A' g.rules.length c'] 25)) w.heap.size w1.heap.size g x A' c' C cx := by
    have hbB := below1 (w1.setCell ⟨w.heap.size, 0, none⟩ (.slice C x.length cx)) (.cells #[.int .i64 g.terms, .int .i64 g.nons, .int .i64 g.start, .slice A' g.rules.length c'] 25)
    have hkB : (w1.setCell ⟨w.heap.size, 0, none⟩ (.slice C x.length cx)).heap[w.heap.size]? = some (.cells #[.slice C x.length cx] 22 (0, 0)) := by rw [heap_set hk1]; rfl
    refine ⟨blk_below hbB (blk_lt hkB) hkB, by rw [← hsz1]; exact heap_alloc_new _ _, ?_, ?_⟩
    · exact ((hM.rules.weak (G := fun b => b ≠ w.heap.size) fun b hb => by rw [World.size_alloc] at hb; omega).keep (fun b hb => heap_set_ne hb _ _) (by rw [size_setCell]; exact Nat.le_refl _)).below hbB
    · exact ((hM.word.weak (G := fun b => b ≠ w.heap.size) fun b hb => by rw [World.size_alloc] at hb; omega).keep (fun b hb => heap_set_ne hb _ _) (by rw [size_setCell]; exact Nat.le_refl _)).below hbB
  unfold gramV
  clear hM hl hl2 hb0 hk0 hf0 hk1
  go_upto_region 2 with (fail)
  generalize (w1.setCell ⟨w.heap.size, 0, none⟩ (.slice C x.length cx)).alloc (.cells #[.int .i64 g.terms, .int .i64 g.nons, .int .i64 g.start, .slice A' g.rules.length c'] 25) = WA at hwA hca ⊢
  clear c0 f0 hsz1 hw1 hl1
  have hq0 := Int.emod_nonneg rr (show (g.rules.length : Int) ≠ 0 by omega)
  have hq1 := Int.emod_lt_of_pos rr (show 0 < (g.rules.length : Int) by omega)
  obtain ⟨q, hq⟩ := Int.eq_ofNat_of_zero_le hq0
  have hbel : ∀ W : World, Calls Try.prog 29 #[.int .i64 rr, .int .i64 g.rules.length] W fun e w' => e = .returned (.int .i64 q) ∧ w' = W := fun W => by
    have := below_int rr (g.rules.length : Int) W (by have := hv.len; omega)
    rwa [hq] at this
  rw [hq] at hq1
  have hql : q < g.rules.length := by omega
  obtain ⟨b, o, rfl, hFb, hlb, hc1, A5, c5, hc2, hsy⟩ := hca.rules.ruleAt q hql
  have hokr := hv.ok g.rules[q] (by simp)
  have hk3 := blk_cell hca.gram (i := 3) rfl
  have hlg := blk_lt hca.gram
  have hlw := blk_lt hca.word
  have HQ := Lib.hid hq
  clear hq hq0
  go_cut [10] (fun s10 wx => s10 = .pointer (some ⟨WA.heap.size, 0, none⟩) ∧ Below WA.heap.size WA wx ∧ wx.heap[WA.heap.size]? = some (.cells #[.int .i64 g.rules[q].l, .slice A5 g.rules[q].r.length c5] 60 (0, 0)))
  case first =>
    go_region_law (first | (refine step_call rfl 29 Try.f29 Try.func29 (by kernel_rfl) (by kernel_rfl) [_, _] _ rfl [.int .i64 rr, .int .i64 g.rules.length] rfl _ (hbel _) ?_; rintro e2 w2 ⟨rfl, rfl⟩; refine ⟨_, rfl, ?_⟩))
    all_goals
      go_wp2_with fail
      go_meet
      exact ⟨rfl, (below1 _ _).drew, heap_alloc_new _ _⟩
  case rest =>
  obtain ⟨rfl, hbx, hrx⟩ := hcut
  have hcx2 := hca.below hbx
  have hsx := hsy.below hbx
  have hwx := hwA.trans (hbx.mono hwA.size)
  have hbl : w.heap.size < wc.heap.size ∧ w1.heap.size < wc.heap.size := ⟨by have := hbx.size; omega, by have := hbx.size; omega⟩
  clear hca hsy hwA hbx hc1 hc2 hk3 hlg hlw hbel
  obtain ⟨r, hr⟩ : ∃ r, g.rules[q] = r := ⟨_, rfl⟩
  rw [hr] at hrx hsx hokr
  have hmem : r ∈ g.rules := by rw [← hr]; exact List.getElem_mem hql
  have HM2 := Lib.hid hmem
  clear hr hmem
  go_wp2_with fail
  refine (charts_any wc).mono ?_
  rintro e3 w3 ⟨rfl, hb3⟩
  have hc3 := hcx2.below hb3
  have hs3 := hsx.below hb3
  have hr3 := blk_below hb3 (blk_lt hrx) hrx
  have hw3 := hwx.trans (hb3.mono hwx.size)
  have hlc : WA.heap.size < w3.heap.size := blk_lt hr3
  have q1 := blk_cell hr3 (i := 1) rfl
  clear hcx2 hsx hrx hwx hb3
  by_cases hl2 : r.r.length = 2
  · have ht1 : ((r.r.length : Int) != 2) = false := by simp [hl2]
    have hkw := blk_cell hc3.word (i := 0) rfl
    go_wp2_with fail
    refine (below_int cut ((x.length : Int) + 1) _ (by omega)).mono ?_
    rintro e4 w4 ⟨rfl, rfl⟩
    have hk0 := Int.emod_nonneg cut (show (x.length : Int) + 1 ≠ 0 by omega)
    have hk1 := Int.emod_lt_of_pos cut (show 0 < (x.length : Int) + 1 by omega)
    generalize cut % ((x.length : Int) + 1) = k0 at hk0 hk1 ⊢
    obtain ⟨k, rfl⟩ := Int.eq_ofNat_of_zero_le hk0
    have hkx : k ≤ x.length := by omega
    obtain ⟨y0, y1, hyy⟩ : ∃ y0 y1, r.r = [y0, y1] := by
      match r.r, hl2 with
      | [a, b], _ => exact ⟨a, b, rfl⟩
    rw [hyy] at hs3
    obtain ⟨b6, o6, rfl, _, _, s00, s01⟩ := hs3.symAt 0 (by simp)
    obtain ⟨b6', o6', e6, _, _, s10, s11⟩ := hs3.symAt 1 (by simp)
    injection e6 with e6
    injection e6 with e1 e2 e3
    subst e1
    subst e2
    simp only [List.getElem_cons_zero, List.getElem_cons_succ, Nat.zero_mul, Nat.add_zero, Nat.one_mul] at s00 s01 s10 s11
    have ho0 : OkSym g y0 := hokr.syms y0 (by rw [hyy]; simp)
    have ho1 : OkSym g y1 := hokr.syms y1 (by rw [hyy]; simp)
    have ho2 : OkSym g ⟨false, r.l⟩ := ⟨hokr.l0, (fun h => by cases h), fun _ => hokr.l1⟩
    have hjoin : HasP g x y0 0 k → HasP g x y1 k x.length → HasP g x ⟨false, r.l⟩ 0 x.length := fun h1 h2 => by
      unfold HasP
      simp only [Bool.false_eq_true, if_false]
      refine .non HM2.out rfl ?_ (.nil _ (Nat.le_refl _))
      rw [hyy]
      exact drv_app (hasP_drv h1) (hasP_drv h2)
    have HL2 := Lib.hid hl2
    have q1' : w4.cell? ⟨WA.heap.size, 1, none⟩ = some (.slice (some ⟨b6, o6, none⟩) 2 c5) := by rw [← hl2]; exact q1
    have q0' := blk_cell hr3 (i := 0) rfl
    have p0 := cell_behind q0'
    have p1 := cell_behind q1'
    have p2 := cell_behind s00
    have p3 := cell_behind s01
    have p4 := cell_behind s10
    have p5 := cell_behind s11
    have p6 := cell_behind hkw
    clear hl2 hyy hk0 hk1 q1 q1' q0' s00 s01 s10 s11 hkw ht1
    go_wp2_with fail
    by_cases H1 : HasP g x y0 0 k
    · by_cases H2 : HasP g x y1 k x.length
      · have H3 := hjoin H1 H2
        have D1 : ∀ p : Behind w4, Calls Try.prog 42 #[.agg #[.bool y0.t, .int .i64 y0.n], .int .i64 0, .int .i64 k, .pointer (some ⟨w.heap.size, 0, none⟩), .pointer (some ⟨w1.heap.size, 0, none⟩)] p.w' fun e w'' => e = .returned (.bool true) ∧ ∃ p2 : Behind w4, w'' = p2.w' := fun p => Calls.behind (hasC_val true y0 0 k w.heap.size w1.heap.size p.w' (hc3.below p.h) hv hcap hok (by omega) hcx (Nat.zero_le _) hkx ho0 (by simp [H1]))
        have D2 : ∀ p : Behind w4, Calls Try.prog 42 #[.agg #[.bool y1.t, .int .i64 y1.n], .int .i64 k, .int .i64 x.length, .pointer (some ⟨w.heap.size, 0, none⟩), .pointer (some ⟨w1.heap.size, 0, none⟩)] p.w' fun e w'' => e = .returned (.bool true) ∧ ∃ p2 : Behind w4, w'' = p2.w' := fun p => Calls.behind (hasC_val true y1 k x.length w.heap.size w1.heap.size p.w' (hc3.below p.h) hv hcap hok (by omega) hcx hkx (Nat.le_refl _) ho1 (by simp [H2]))
        have D3 : ∀ p : Behind w4, Calls Try.prog 42 #[.agg #[.bool false, .int .i64 r.l], .int .i64 0, .int .i64 x.length, .pointer (some ⟨w.heap.size, 0, none⟩), .pointer (some ⟨w1.heap.size, 0, none⟩)] p.w' fun e w'' => e = .returned (.bool true) ∧ ∃ p2 : Behind w4, w'' = p2.w' := fun p => Calls.behind (hasC_val true ⟨false, r.l⟩ 0 x.length w.heap.size w1.heap.size p.w' (hc3.below p.h) hv hcap hok (by omega) hcx (Nat.zero_le _) (Nat.le_refl _) ho2 (by simp [H3]))
        have E1 := Lib.hid D1
        have E2 := Lib.hid D2
        have E3 := Lib.hid D3
        clear H1 H2 H3 hjoin D1 D2 D3
        refine wp_region_behind (by kernel_rfl) (by kernel_rfl) ?_
        repeat (go_big_quiet_step ((first | with_reducible exact E1.out _ | with_reducible exact E2.out _ | with_reducible exact E3.out _)))
        refine wpQuiet_nil ?_
        intro _ hw'
        obtain ⟨P2, hw''⟩ := hw'
        subst hw''
        have hbP := P2.h
        generalize P2.w' = W3 at hbP ⊢
        clear p0 p1 p2 p3 p4 p5 p6
        go_wp2_with fail
        go_ret
        exact ⟨rfl, hw3.trans (hbP.mono hw3.size)⟩
      · have D1 : ∀ p : Behind w4, Calls Try.prog 42 #[.agg #[.bool y0.t, .int .i64 y0.n], .int .i64 0, .int .i64 k, .pointer (some ⟨w.heap.size, 0, none⟩), .pointer (some ⟨w1.heap.size, 0, none⟩)] p.w' fun e w'' => e = .returned (.bool true) ∧ ∃ p2 : Behind w4, w'' = p2.w' := fun p => Calls.behind (hasC_val true y0 0 k w.heap.size w1.heap.size p.w' (hc3.below p.h) hv hcap hok (by omega) hcx (Nat.zero_le _) hkx ho0 (by simp [H1]))
        have D2 : ∀ p : Behind w4, Calls Try.prog 42 #[.agg #[.bool y1.t, .int .i64 y1.n], .int .i64 k, .int .i64 x.length, .pointer (some ⟨w.heap.size, 0, none⟩), .pointer (some ⟨w1.heap.size, 0, none⟩)] p.w' fun e w'' => e = .returned (.bool false) ∧ ∃ p2 : Behind w4, w'' = p2.w' := fun p => Calls.behind (hasC_val false y1 k x.length w.heap.size w1.heap.size p.w' (hc3.below p.h) hv hcap hok (by omega) hcx hkx (Nat.le_refl _) ho1 (by simp [H2]))
        have E1 := Lib.hid D1
        have E2 := Lib.hid D2
        clear H1 H2 hjoin D1 D2
        refine wp_region_behind (by kernel_rfl) (by kernel_rfl) ?_
        repeat (go_big_quiet_step ((first | with_reducible exact E1.out _ | with_reducible exact E2.out _)))
        refine wpQuiet_nil ?_
        intro _ hw'
        obtain ⟨P2, hw''⟩ := hw'
        subst hw''
        have hbP := P2.h
        generalize P2.w' = W3 at hbP ⊢
        clear p0 p1 p2 p3 p4 p5 p6
        go_wp2_with fail
        go_ret
        exact ⟨rfl, hw3.trans (hbP.mono hw3.size)⟩
    · have D1 : ∀ p : Behind w4, Calls Try.prog 42 #[.agg #[.bool y0.t, .int .i64 y0.n], .int .i64 0, .int .i64 k, .pointer (some ⟨w.heap.size, 0, none⟩), .pointer (some ⟨w1.heap.size, 0, none⟩)] p.w' fun e w'' => e = .returned (.bool false) ∧ ∃ p2 : Behind w4, w'' = p2.w' := fun p => Calls.behind (hasC_val false y0 0 k w.heap.size w1.heap.size p.w' (hc3.below p.h) hv hcap hok (by omega) hcx (Nat.zero_le _) hkx ho0 (by simp [H1]))
      have E1 := Lib.hid D1
      clear H1 hjoin D1
      refine wp_region_behind (by kernel_rfl) (by kernel_rfl) ?_
      repeat (go_big_quiet_step (with_reducible exact E1.out _))
      refine wpQuiet_nil ?_
      intro _ hw'
      obtain ⟨P2, hw''⟩ := hw'
      subst hw''
      have hbP := P2.h
      generalize P2.w' = W3 at hbP ⊢
      clear p0 p1 p2 p3 p4 p5 p6
      go_wp2_with fail
      go_ret
      exact ⟨rfl, hw3.trans (hbP.mono hw3.size)⟩
  · have ht1 : ((r.r.length : Int) != 2) = true := by simp; omega
    go_wp2_with fail
    refine (charts_any w3).mono ?_
    rintro e4 w4 ⟨rfl, hb4⟩
    go_wp2_with fail
    go_ret
    exact ⟨rfl, hw3.trans (hb4.mono hw3.size)⟩
end Go.Proofs.Ytcndbohiiodndaa
