import Derived.Test.YtdbkbkopcnkgcaaMoreP
import Derived.Test.YtdbkbkopcnkgcaaMeanCount
open Go Go.RowKit
namespace Go.Proofs.Ytdbkbkopcnkgcaa

/-! ### the check of a grammar whose last rule is there already -/
structure DupG (g : Gram) (l : List Rule) : Prop where
  t1 : 1 ≤ g.terms
  t8 : g.terms ≤ 8
  n1 : 1 ≤ g.nons
  n10 : g.nons ≤ 10
  s0 : 0 ≤ g.start
  s1 : g.start < g.nons
  len : g.rules.length ≤ 32
  ok : ∀ r ∈ g.rules, OkRule g r
  last : g.rules.length = l.length + 1
  there : ∃ m, m < l.length ∧ g.rules[m]? = g.rules[l.length]?

set_option maxRecDepth 100000 in
set_option maxHeartbeats 1600000 in
theorem check_dup (F : Nat → Prop) (g : Gram) (A : Option Addr) (n c : Nat) (w : World) (hr : IsSl Elt.rule F w (.slice A n c) g.rules) (l : List Rule) (hd : DupG g l) (hc : n ≤ c) :
    Calls Try.prog 89 #[gramV g (.slice A n c)] w fun e w' => e = .returned (.int .i64 6) ∧ Below w.heap.size w w' := by
  obtain ⟨rfl, hn⟩ := hr.len
  have t1 := hd.t1
  have t8 := hd.t8
  have n1 := hd.n1
  have n10 := hd.n10
  have s0 := hd.s0
  have s1 := hd.s1
  have hlen := hd.len
  have hll1 : g.rules.length ≤ l.length + 1 := Nat.le_of_eq hd.last
  have hll2 : l.length + 1 ≤ g.rules.length := Nat.le_of_eq hd.last.symm
  unfold gramV
  go_enter Try.func89, Try.ntmps89
  go_wp2
  go_loopw [46] (fun i wr => ∃ k : Nat, k ≤ l.length ∧ i = .int .i64 k ∧ Below (w.heap.size + 1) (w.alloc (.cells #[.int .i64 g.terms, .int .i64 g.nons, .int .i64 g.start, .slice A g.rules.length c] 25)) wr) (fun i _ => g.rules.length - (intOf i).toNat)
  case atStart => exact ⟨0, by omega, rfl, Below.refl _ _⟩
  case round =>
    obtain ⟨k, hk, rfl, hb⟩ := hrel
    have hb0 : Below w.heap.size w wr := ((Below.refl _ _).alloc (Nat.le_refl _) _).trans (hb.mono (by omega))
    have hg0 := box_cell hb (j := 0) rfl
    have hg1 := box_cell hb (j := 1) rfl
    have hg3 := box_cell hb (j := 3) rfl
    have hsz : w.heap.size < wr.heap.size := by have := hb.size; simp at this; omega
    by_cases hlt : k < g.rules.length
    · obtain ⟨b, o, rfl, hF, hl, hc1, A', c', hc2, hsy⟩ := (hr.below hb0).ruleAt k hlt
      obtain ⟨wo, rfl⟩ : ∃ wo : World, wo = wr := ⟨_, rfl⟩
      have hok := hd.ok g.rules[k] (by simp)
      have l0 := hok.l0
      have l1 := hok.l1
      have ln := hok.len
      go_wp2
      go_loopw [68] (fun i wr => ∃ j : Nat, j ≤ g.rules[k].r.length ∧ i = .int .i64 j ∧ Below (wo.heap.size + 1) (wo.alloc (.cells #[.int .i64 g.rules[k].l, .slice A' g.rules[k].r.length c'] 47)) wr) (fun i _ => g.rules[k].r.length - (intOf i).toNat)
      case atStart => exact ⟨0, by omega, rfl, Below.refl _ _⟩
      case round =>
        obtain ⟨j, hj, rfl, hbi⟩ := hrel
        have hbi1 : Below wo.heap.size wo wr := ((Below.refl _ _).alloc (Nat.le_refl _) _).trans (hbi.mono (by omega))
        have hbi0 : Below (w.heap.size + 1) (w.alloc (.cells #[.int .i64 g.terms, .int .i64 g.nons, .int .i64 g.start, .slice (some ⟨b, o, none⟩) g.rules.length c] 25)) wr := hb.trans (hbi1.mono hsz)
        have hj0 := box_cell hbi0 (j := 0) rfl
        have hj1 := box_cell hbi0 (j := 1) rfl
        have hj3 := box_cell hbi0 (j := 3) rfl
        have hsi : wo.heap.size < wr.heap.size := by have := hbi.size; simp at this; omega
        have hsw : w.heap.size < wr.heap.size := by omega
        by_cases hlt2 : j < g.rules[k].r.length
        · obtain ⟨b2, o2, rfl, hF2, hl2, hc3, hc4⟩ := (hsy.below hbi1).symAt j hlt2
          have hs := hok.syms g.rules[k].r[j] (by simp)
          have hs0 := hs.n0
          have hs1 := hs.nt
          have hs2 := hs.nn
          generalize g.rules[k].r[j] = y at hs0 hs1 hs2 hc3 hc4
          clear hs
          obtain ⟨yt, yn⟩ := y
          cases yt
          · have hs3 := hs2 rfl
            simp only at hs0 hs3 hc3 hc4
            clear hs1 hs2
            go_wp2
            go_roundw
            case rel => exact ⟨j + 1, by omega, by go_num, hbi.alloc hsi _⟩
            case measure => simp [intOf]; omega
          · have hs3 := hs1 rfl
            simp only at hs0 hs3 hc3 hc4
            clear hs1 hs2
            go_wp2
            go_roundw
            case rel => exact ⟨j + 1, by omega, by go_num, hbi.alloc hsi _⟩
            case measure => simp [intOf]; omega
        · have hq0 := box_cell hbi (j := 0) rfl
          have hq1 := box_cell hbi (j := 1) rfl
          go_wp2
          obtain ⟨wi, rfl⟩ : ∃ wi : World, wi = wr := ⟨_, rfl⟩
          go_loopw [104] (fun i wr => ∃ m : Nat, m ≤ k ∧ i = .int .i64 m ∧ Below wi.heap.size wi wr ∧ Hid (∀ m', m' < m → g.rules[m']? ≠ g.rules[k]?)) (fun i _ => k - (intOf i).toNat)
          case atStart => exact ⟨0, by omega, rfl, Below.refl _ _, Lib.hid fun m' h => absurd h (Nat.not_lt_zero _)⟩
          case round =>
            obtain ⟨m, hm, rfl, hbm, HNO⟩ := hrel
            have hq0 := (hbm.cell (p := ⟨wo.heap.size, 0, none⟩) hsi).trans hq0
            have hq1 := (hbm.cell (p := ⟨wo.heap.size, 1, none⟩) hsi).trans hq1
            have hsr := hbm.size
            have hsr2 : wo.heap.size < wr.heap.size := by omega
            have hbm0 : Below w.heap.size w wr := hb0.trans (((hbi1.mono (by omega))).trans (hbm.mono (by omega)))
            by_cases hlt3 : m < k
            · obtain ⟨b3, o3, he3, hF3, hl3, hc5, A3, c3, hc6, hs6⟩ := (hr.below hbm0).ruleAt m (by omega)
              injection he3 with he3
              injection he3 with he3 he4
              subst he3
              subst he4
              have hsy3 := hsy.below (hbi1.trans (hbm.mono (by omega)))
              by_cases heq : g.rules[m] = g.rules[k]
              · have hne' : (cmpRule g.rules[m] g.rules[k] == 0) = true := by simpa using (cmpRule_eq _ _).2 heq
                clear heq
                go_wp2_with fail
                refine (cmpRule_any F g.rules[m] g.rules[k] A3 A' _ _ c3 c' _ (hs6.below ((Below.refl _ _).alloc (Nat.le_refl _) _)) (hsy3.below ((Below.refl _ _).alloc (Nat.le_refl _) _))).mono ?_
                rintro e w' ⟨rfl, hb2⟩
                go_wp2
                go_ret
                exact ⟨rfl, hbm0.trans ((((Below.refl _ _).alloc (Nat.le_refl _) _).trans (hb2.mono (by simp))).mono hbm0.size)⟩
              · have hne : cmpRule g.rules[m] g.rules[k] ≠ 0 := by
                  rw [Ne, cmpRule_eq]; exact heq
                have hne' : (cmpRule g.rules[m] g.rules[k] == 0) = false := by simpa using hne
                have HN2 := Lib.hid (show ∀ m', m' < m + 1 → g.rules[m']? ≠ g.rules[k]? from fun m' hm' => by
                  by_cases e : m' = m
                  · subst e
                    rw [List.getElem?_eq_getElem (by omega), List.getElem?_eq_getElem hlt]
                    exact fun h => heq (Option.some.inj h)
                  · exact HNO.out m' (by omega))
                clear hne heq
                go_wp2_with fail
                refine (cmpRule_any F g.rules[m] g.rules[k] A3 A' _ _ c3 c' _ (hs6.below ((Below.refl _ _).alloc (Nat.le_refl _) _)) (hsy3.below ((Below.refl _ _).alloc (Nat.le_refl _) _))).mono ?_
                rintro e w' ⟨rfl, hb2⟩
                go_wp2
                go_roundw
                case rel => exact ⟨m + 1, by omega, by go_num, (hbm.alloc hsr _).trans (hb2.mono (by simp; omega)), HN2⟩
                case measure => simp [intOf]; omega
            · have hkl : k < l.length := by
                rcases Nat.lt_or_ge k l.length with h | h
                · exact h
                · exfalso
                  have hkl : k = l.length := by omega
                  subst hkl
                  obtain ⟨m0, h1, h2⟩ := hd.there
                  exact HNO.out m0 (by omega) h2
              go_wp2
              go_roundw
              case rel => exact ⟨k + 1, by omega, by go_num, hb.trans (hbi1.mono (by omega) |>.trans (hbm.mono (by omega)))⟩
              case measure => simp [intOf]; omega
    · exfalso; omega

theorem check_there (F : Nat → Prop) (g : Gram) (A : Option Addr) (n c : Nat) (B : Option Addr) (m d : Nat) (w : World) (hr : IsSl Elt.rule F w (.slice A n c) g.rules) (l : List Rule) (hd : DupG g l) (hc : n ≤ c)
    :
    Calls Try.prog 76 #[gramV g (.slice A n c), .slice B m d] w fun e w' => e = .returned (.int .i64 6) ∧ Below w.heap.size w w' := by
  go_enter Try.func76, Try.ntmps76
  unfold gramV
  go_wp2_with fail
  have hb1 : Below w.heap.size w (w.alloc (.cells #[.int .i64 g.terms, .int .i64 g.nons, .int .i64 g.start, .slice A n c] 25)) := (Below.refl _ _).alloc (Nat.le_refl _) _
  refine (check_dup F g A n c _ (hr.below hb1) l hd hc).mono ?_
  rintro e w' ⟨rfl, hb2⟩
  have hb3 : Below w.heap.size w w' := hb1.trans (hb2.mono (by simp))
  go_wp2
  go_ret
  exact ⟨rfl, hb3⟩

end Go.Proofs.Ytdbkbkopcnkgcaa
