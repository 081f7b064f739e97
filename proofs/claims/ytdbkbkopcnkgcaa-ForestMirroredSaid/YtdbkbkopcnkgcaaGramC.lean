import Derived.Test.YtdbkbkopcnkgcaaGramB
open Go Go.RowKit
namespace Go.Proofs.Ytdbkbkopcnkgcaa

theorem take_sl {α : Type} {d : Elt α} {F : Nat → Prop} {w : World} {A : Option Addr} {n c m : Nat} {xs : List α} (h : IsSl d F w (.slice A n c) xs) (i : Nat) (hi : i ≤ xs.length) : IsSl d F w (.slice A i m) (xs.take i) := by
  obtain ⟨A', c', he, hl, h⟩ := h
  injection he with h1 h2 h3
  subst h1
  refine ⟨A, m, by rw [List.length_take, Nat.min_eq_left hi], by rw [List.length_take]; omega, fun k hk => ?_⟩
  rw [List.length_take] at hk
  obtain ⟨b, o, rfl, hb, hlt, he⟩ := h k (by omega)
  exact ⟨b, o, rfl, hb, hlt, by rw [List.getElem_take]; exact he⟩

set_option maxRecDepth 100000 in
set_option maxHeartbeats 1600000 in
theorem check_valid (F : Nat → Prop) (g : Gram) (A : Option Addr) (n c : Nat) (w : World) (hr : IsSl Elt.rule F w (.slice A n c) g.rules) (hv : Valid g) (hc : n ≤ c) :
    Calls Try.prog 89 #[gramV g (.slice A n c)] w fun e w' => e = .returned (.int .i64 0) ∧ Below w.heap.size w w' := by
  obtain ⟨rfl, hn⟩ := hr.len
  have t1 := hv.t1
  have t8 := hv.t8
  have n1 := hv.n1
  have n10 := hv.n10
  have s0 := hv.s0
  have s1 := hv.s1
  have hlen := hv.len
  unfold gramV
  go_enter Try.func89, Try.ntmps89
  go_wp2
  go_loopw [46] (fun i wr => ∃ k : Nat, k ≤ g.rules.length ∧ i = .int .i64 k ∧ Below (w.heap.size + 1) (w.alloc (.cells #[.int .i64 g.terms, .int .i64 g.nons, .int .i64 g.start, .slice A g.rules.length c] 25)) wr) (fun i _ => g.rules.length - (intOf i).toNat)
  case atStart => exact ⟨0, by omega, rfl, Below.refl _ _⟩
  case round =>
    obtain ⟨k, hk, rfl, hb⟩ := hrel
    have hb0 : Below w.heap.size w wr := ((Below.refl _ _).alloc (Nat.le_refl _) _).trans (hb.mono (by omega))
    have hg0 := box_cell hb (j := 0) rfl
    have hg1 := box_cell hb (j := 1) rfl
    have hg3 := box_cell hb (j := 3) rfl
    have hsz : w.heap.size < wr.heap.size := by have := hb.size; simp at this; omega
    by_cases hlt : k < g.rules.length
    · obtain ⟨b, o, rfl, hF, hl, hc1, A', c', hc2, hsy⟩ := (hr.below hb0).ruleAt k hlt
      obtain ⟨wo, rfl⟩ : ∃ wo : World, wo = wr := ⟨_, rfl⟩
      have hok := hv.ok g.rules[k] (by simp)
      have l0 := hok.l0
      have l1 := hok.l1
      have ln := hok.len
      go_wp2
      go_loopw [68] (fun i wr => ∃ j : Nat, j ≤ g.rules[k].r.length ∧ i = .int .i64 j ∧ Below (wo.heap.size + 1) (wo.alloc (.cells #[.int .i64 g.rules[k].l, .slice A' g.rules[k].r.length c'] 47)) wr) (fun i _ => g.rules[k].r.length - (intOf i).toNat)
      case atStart => exact ⟨0, by omega, rfl, Below.refl _ _⟩
      case round =>
        obtain ⟨j, hj, rfl, hbi⟩ := hrel
        have hbi1 : Below wo.heap.size wo wr := ((Below.refl _ _).alloc (Nat.le_refl _) _).trans (hbi.mono (by omega))
        have hbi0 : Below (w.heap.size + 1) (w.alloc (.cells #[.int .i64 g.terms, .int .i64 g.nons, .int .i64 g.start, .slice (some ⟨b, o, none⟩) g.rules.length c] 25)) wr := hb.trans (hbi1.mono hsz)
        have hj0 := box_cell hbi0 (j := 0) rfl
        have hj1 := box_cell hbi0 (j := 1) rfl
        have hj3 := box_cell hbi0 (j := 3) rfl
        have hsi : wo.heap.size < wr.heap.size := by have := hbi.size; simp at this; omega
        have hsw : w.heap.size < wr.heap.size := by omega
        by_cases hlt2 : j < g.rules[k].r.length
        · obtain ⟨b2, o2, rfl, hF2, hl2, hc3, hc4⟩ := (hsy.below hbi1).symAt j hlt2
          have hs := hok.syms g.rules[k].r[j] (by simp)
          have hs0 := hs.n0
          have hs1 := hs.nt
          have hs2 := hs.nn
          generalize g.rules[k].r[j] = y at hs0 hs1 hs2 hc3 hc4
          clear hs
          obtain ⟨yt, yn⟩ := y
          cases yt
          · have hs3 := hs2 rfl
            simp only at hs0 hs3 hc3 hc4
            clear hs1 hs2
            go_wp2
            go_roundw
            case rel => exact ⟨j + 1, by omega, by go_num, hbi.alloc hsi _⟩
            case measure => simp [intOf]; omega
          · have hs3 := hs1 rfl
            simp only at hs0 hs3 hc3 hc4
            clear hs1 hs2
            go_wp2
            go_roundw
            case rel => exact ⟨j + 1, by omega, by go_num, hbi.alloc hsi _⟩
            case measure => simp [intOf]; omega
        · have hq0 := box_cell hbi (j := 0) rfl
          have hq1 := box_cell hbi (j := 1) rfl
          go_wp2
          obtain ⟨wi, rfl⟩ : ∃ wi : World, wi = wr := ⟨_, rfl⟩
          go_loopw [104] (fun i wr => ∃ m : Nat, m ≤ k ∧ i = .int .i64 m ∧ Below wi.heap.size wi wr) (fun i _ => k - (intOf i).toNat)
          case atStart => exact ⟨0, by omega, rfl, Below.refl _ _⟩
          case round =>
            obtain ⟨m, hm, rfl, hbm⟩ := hrel
            have hq0 := (hbm.cell (p := ⟨wo.heap.size, 0, none⟩) hsi).trans hq0
            have hq1 := (hbm.cell (p := ⟨wo.heap.size, 1, none⟩) hsi).trans hq1
            have hsr := hbm.size
            have hsr2 : wo.heap.size < wr.heap.size := by omega
            have hbm0 : Below w.heap.size w wr := hb0.trans (((hbi1.mono (by omega))).trans (hbm.mono (by omega)))
            by_cases hlt3 : m < k
            · obtain ⟨b3, o3, he3, hF3, hl3, hc5, A3, c3, hc6, hs6⟩ := (hr.below hbm0).ruleAt m (by omega)
              injection he3 with he3
              injection he3 with he3 he4
              subst he3
              subst he4
              have hsy3 := hsy.below (hbi1.trans (hbm.mono (by omega)))
              have hne : cmpRule g.rules[m] g.rules[k] ≠ 0 := by
                rw [Ne, cmpRule_eq]
                exact List.pairwise_iff_getElem.1 hv.nodup m k (by omega) hlt hlt3
              have hne' : (cmpRule g.rules[m] g.rules[k] == 0) = false := by simpa using hne
              clear hne
              go_wp2_with fail
              refine (cmpRule_any F g.rules[m] g.rules[k] A3 A' _ _ c3 c' _ (hs6.below ((Below.refl _ _).alloc (Nat.le_refl _) _)) (hsy3.below ((Below.refl _ _).alloc (Nat.le_refl _) _))).mono ?_
              rintro e w' ⟨rfl, hb2⟩
              go_wp2
              go_roundw
              case rel => exact ⟨m + 1, by omega, by go_num, (hbm.alloc hsr _).trans (hb2.mono (by simp; omega))⟩
              case measure => simp [intOf]; omega
            · go_wp2
              go_roundw
              case rel => exact ⟨k + 1, by omega, by go_num, hb.trans (hbi1.mono (by omega) |>.trans (hbm.mono (by omega)))⟩
              case measure => simp [intOf]; omega
    · go_wp2
      go_ret
      exact ⟨rfl, hb0⟩

theorem check_ok (F : Nat → Prop) (g : Gram) (A : Option Addr) (n c : Nat) (x : List Int) (B : Option Addr) (m d : Nat) (w : World) (hr : IsSl Elt.rule F w (.slice A n c) g.rules) (hv : Valid g) (hc : n ≤ c)
    (hx : IsSl Elt.int F w (.slice B m d) x) (ho : OkWord g x) (hm : x.length ≤ 12) :
    Calls Try.prog 76 #[gramV g (.slice A n c), .slice B m d] w fun e w' => e = .returned (.int .i64 0) ∧ Below w.heap.size w w' := by
  have hm2 : (x.length : Int) ≤ 12 := by omega
  go_enter Try.func76, Try.ntmps76
  unfold gramV
  go_wp2_with fail
  have hb1 : Below w.heap.size w (w.alloc (.cells #[.int .i64 g.terms, .int .i64 g.nons, .int .i64 g.start, .slice A n c] 25)) := (Below.refl _ _).alloc (Nat.le_refl _) _
  refine (check_valid F g A n c _ (hr.below hb1) hv hc).mono ?_
  rintro e w' ⟨rfl, hb2⟩
  have hb3 : Below w.heap.size w w' := hb1.trans (hb2.mono (by simp))
  have h0 := box_cell (w := w) (wr := w') (hb2.mono (by simp)) (j := 0) rfl
  have h1 := box_cell (w := w) (wr := w') (hb2.mono (by simp)) (j := 1) rfl
  have h2 := box_cell (w := w) (wr := w') (hb2.mono (by simp)) (j := 2) rfl
  have h3 := box_cell (w := w) (wr := w') (hb2.mono (by simp)) (j := 3) rfl
  go_wp2_with fail
  refine (gramWord_any F g _ x B m d 12 _ (hx.below hb3) (by omega) ho).mono ?_
  rintro e w2 ⟨rfl, hb4⟩
  go_wp2
  go_ret
  exact ⟨rfl, hb3.trans (hb4.mono hb3.size)⟩
end Go.Proofs.Ytdbkbkopcnkgcaa
