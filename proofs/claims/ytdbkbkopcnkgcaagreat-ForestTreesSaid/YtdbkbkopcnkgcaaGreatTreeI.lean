import Derived.Test.YtdbkbkopcnkgcaaGreatTreeH
import Derived.Test.YtdbkbkopcnkgcaaGreatRevInt
import Derived.Test.YtdbkbkopcnkgcaaGreatEqual
open Go Go.RowKit
namespace Go.Proofs.YtdbkbkopcnkgcaaGreat

/-! ### slices.Reverse of parts -/
def MpAt (w : World) (b : Nat) (L : List MPart) : Prop := ∃ cs, w.heap[b]? = some (.cells cs 78 (0, 0)) ∧ ∀ z (h : z < L.length), cs[z * 3]? = some (.int .i64 L[z].n) ∧ cs[z * 3 + 1]? = some (.int .i64 L[z].i) ∧ cs[z * 3 + 2]? = some (.int .i64 L[z].j)
theorem MpAt.cell {w : World} {b : Nat} {L : List MPart} (h : MpAt w b L) {z : Nat} (hz : z < L.length) : w.cell? ⟨b, z * 3, none⟩ = some (.int .i64 L[z].n) ∧ w.cell? ⟨b, z * 3 + 1, none⟩ = some (.int .i64 L[z].i) ∧ w.cell? ⟨b, z * 3 + 2, none⟩ = some (.int .i64 L[z].j) := by
  obtain ⟨cs, h1, h2⟩ := h
  exact ⟨blk_cell h1 (h2 z hz).1, blk_cell h1 (h2 z hz).2.1, blk_cell h1 (h2 z hz).2.2⟩
theorem MpAt.free {w : World} {b : Nat} {L : List MPart} (h : MpAt w b L) (z : Nat) : w.frozen? ⟨b, z, none⟩ = false := by
  obtain ⟨cs, h1, _⟩ := h
  exact blk_free h1
theorem MpAt.set {w : World} {b : Nat} {L : List MPart} (h : MpAt w b L) (z : Nat) (y : MPart) : MpAt (((w.setCell ⟨b, z * 3, none⟩ (.int .i64 y.n)).setCell ⟨b, z * 3 + 1, none⟩ (.int .i64 y.i)).setCell ⟨b, z * 3 + 2, none⟩ (.int .i64 y.j)) b (L.set z y) := by
  obtain ⟨cs, h1, h2⟩ := h
  refine ⟨_, heap_set (heap_set (heap_set h1 _ _) _ _) _ _, fun x hx => ?_⟩
  rw [List.length_set] at hx
  obtain ⟨k1, k2, k3⟩ := h2 x hx
  have l1 : x * 3 < cs.size := (Array.getElem?_eq_some_iff.1 k1).1
  have l2 : x * 3 + 1 < cs.size := (Array.getElem?_eq_some_iff.1 k2).1
  have l3 : x * 3 + 2 < cs.size := (Array.getElem?_eq_some_iff.1 k3).1
  rw [List.getElem_set]
  simp only [Array.getElem?_setIfInBounds, Array.size_setIfInBounds]
  by_cases e : z = x
  · subst e
    rw [if_pos rfl, if_neg (by omega), if_neg (by omega), if_pos rfl, if_pos l1, if_neg (by omega), if_pos rfl, if_pos l2, if_pos rfl, if_pos l3]
    exact ⟨rfl, rfl, rfl⟩
  · rw [if_neg e, if_neg (by omega), if_neg (by omega), if_neg (by omega), if_neg (by omega), if_neg (by omega), if_neg (by omega), if_neg (by omega), if_neg (by omega), if_neg (by omega)]
    exact ⟨k1, k2, k3⟩
theorem MpAt.same {w w' : World} {b : Nat} {L : List MPart} (h : MpAt w b L) (e : w'.heap[b]? = w.heap[b]?) : MpAt w' b L := by
  obtain ⟨cs, h1, h2⟩ := h
  exact ⟨cs, e.trans h1, h2⟩
theorem MpAt.lt {w : World} {b : Nat} {L : List MPart} (h : MpAt w b L) : b < w.heap.size := by
  obtain ⟨cs, h1, _⟩ := h
  exact blk_lt h1
theorem mpC_get : ∀ (l : List MPart) (k : Nat) (h : k < l.length), (l.flatMap mpC)[k * 3]? = some (.int .i64 l[k].n) ∧ (l.flatMap mpC)[k * 3 + 1]? = some (.int .i64 l[k].i) ∧ (l.flatMap mpC)[k * 3 + 2]? = some (.int .i64 l[k].j)
  | [], k, h => by simp at h
  | a :: l, 0, h => by simp [mpC]
  | a :: l, k + 1, h => by
    have := mpC_get l k (by simpa using h)
    rw [List.flatMap_cons]
    have e : ∀ j, (mpC a ++ l.flatMap mpC)[(k + 1) * 3 + j]? = (l.flatMap mpC)[k * 3 + j]? := fun j => by
      rw [List.getElem?_append_right (by simp [mpC]; omega)]
      congr 1
      simp [mpC]; omega
    exact ⟨(e 0).trans this.1, (e 1).trans this.2.1, (e 2).trans this.2.2⟩
theorem mpAt_own {w : World} {base g c : Nat} {s : List MPart} (h : w.ownsRow base 78 3 (.slice (some ⟨g, 0, none⟩) s.length c) s.length (s.flatMap mpC)) : MpAt w g s := by
  rcases h.2 with ⟨h1, _⟩ | ⟨g', cap, cur, h1, _, h3, _, _, h6, h7⟩
  · cases h1
  · injection h1 with h1
    injection h1 with h1
    injection h1 with h1
    subst h1
    refine ⟨cur, h3, fun z hz => ?_⟩
    have hk := mpC_get s z hz
    have e : ∀ j, j < s.length * 3 → cur[j]? = (s.flatMap mpC)[j]? := fun j hj => by
      rw [← h7, List.getElem?_take, if_pos hj]
      simp
    exact ⟨(e _ (by omega)).trans hk.1, (e _ (by omega)).trans hk.2.1, (e _ (by omega)).trans hk.2.2⟩

set_option maxRecDepth 100000 in
set_option maxHeartbeats 3200000 in
theorem reverse_part (L : List MPart) (b c : Nat) (w : World) (hL : MpAt w b L) (hl : L.length ≤ 1000000) :
    Calls Tryz.prog 26 #[.slice (some ⟨b, 0, none⟩) L.length c] w fun e w' => e = .returned (.tuple #[]) ∧ MpAt w' b L.reverse ∧ Away w.heap.size (fun k => k = b) w w' := by
  go_enter Tryz.func26, Tryz.ntmps26
  go_wp2_with fail
  go_loopg [2, 3] L.length (fun gk iv jv wr => ∃ k : Nat, k ≤ L.length ∧ gk = L.length - k ∧ iv = .int .i64 k ∧ jv = .int .i64 ((L.length : Int) - 1 - k) ∧ MpAt wr b (revF ⟨0, 0, 0⟩ L k) ∧ Away w.heap.size (fun k => k = b) w wr)
  case atStart => exact ⟨0, by omega, by omega, rfl, by simp, by rw [revF_zero]; exact hL, Away.refl _ _ _⟩
  case round =>
    clear hL
    obtain ⟨k, hk, rfl, rfl, rfl, hat, haw⟩ := hrel
    obtain ⟨wo, rfl⟩ : ∃ wo : World, wo = wr := ⟨_, rfl⟩
    by_cases hlt : (k : Int) < (L.length : Int) - 1 - k
    · obtain ⟨m, hm⟩ : ∃ m : Nat, m = L.length - 1 - k := ⟨_, rfl⟩
      have hmz : (L.length : Int) - 1 - k = (m : Int) := by omega
      rw [hmz] at hlt ⊢
      have hkm : k < m := by omega
      have hml : m < L.length := by omega
      have hmlz : (m : Int) < (L.length : Int) := by omega
      have hklz : (k : Int) < (L.length : Int) := by omega
      obtain ⟨hck, hck2, hck3⟩ := hat.cell (z := k) (by rw [revF_len]; omega)
      obtain ⟨hcm, hcm2, hcm3⟩ := hat.cell (z := m) (by rw [revF_len]; omega)
      have ek : (revF ⟨0, 0, 0⟩ L k)[k]'(by rw [revF_len]; omega) = L.getD k ⟨0, 0, 0⟩ := by
        have h := revF_get (d := (⟨0, 0, 0⟩ : MPart)) (L := L) (k := k) (z := k) (by omega)
        rw [List.getElem?_eq_getElem (by rw [revF_len]; omega), if_neg (by omega)] at h
        exact Option.some.inj h
      have em : (revF ⟨0, 0, 0⟩ L k)[m]'(by rw [revF_len]; omega) = L.getD m ⟨0, 0, 0⟩ := by
        have h := revF_get (d := (⟨0, 0, 0⟩ : MPart)) (L := L) (k := k) (z := m) (by omega)
        rw [List.getElem?_eq_getElem (by rw [revF_len]; omega), if_neg (by omega)] at h
        exact Option.some.inj h
      rw [ek] at hck hck2 hck3
      rw [em] at hcm hcm2 hcm3
      have hput := (hat.set k (L.getD m ⟨0, 0, 0⟩)).set m (L.getD k ⟨0, 0, 0⟩)
      rw [revF_step hm hkm] at hput
      have hf1 := hat.free (k * 3)
      have hf1b := hat.free (k * 3 + 1)
      have hf1c := hat.free (k * 3 + 2)
      have hf2 := (hat.set k (L.getD m ⟨0, 0, 0⟩)).free (m * 3)
      have hf2b := (hat.set k (L.getD m ⟨0, 0, 0⟩)).free (m * 3 + 1)
      have hf2c := (hat.set k (L.getD m ⟨0, 0, 0⟩)).free (m * 3 + 2)
      have hcs := (hat.set k (L.getD m ⟨0, 0, 0⟩)).cell (z := m) (by rw [List.length_set, revF_len]; omega)
      rw [List.getElem_set, if_neg (by omega), em] at hcs
      obtain ⟨hc3, hc4, hc5⟩ := hcs
      have haw2 := ((((((haw.trans (Away.setCell wo b (k * 3) (.int .i64 (L.getD m ⟨0, 0, 0⟩).n) (.inl rfl))).trans (Away.setCell (wo.setCell ⟨b, k * 3, none⟩ (.int .i64 (L.getD m ⟨0, 0, 0⟩).n)) b (k * 3 + 1) (.int .i64 (L.getD m ⟨0, 0, 0⟩).i) (.inl rfl))).trans (Away.setCell ((wo.setCell ⟨b, k * 3, none⟩ (.int .i64 (L.getD m ⟨0, 0, 0⟩).n)).setCell ⟨b, k * 3 + 1, none⟩ (.int .i64 (L.getD m ⟨0, 0, 0⟩).i)) b (k * 3 + 2) (.int .i64 (L.getD m ⟨0, 0, 0⟩).j) (.inl rfl))).trans (Away.setCell (((wo.setCell ⟨b, k * 3, none⟩ (.int .i64 (L.getD m ⟨0, 0, 0⟩).n)).setCell ⟨b, k * 3 + 1, none⟩ (.int .i64 (L.getD m ⟨0, 0, 0⟩).i)).setCell ⟨b, k * 3 + 2, none⟩ (.int .i64 (L.getD m ⟨0, 0, 0⟩).j)) b (m * 3) (.int .i64 (L.getD k ⟨0, 0, 0⟩).n) (.inl rfl))).trans (Away.setCell ((((wo.setCell ⟨b, k * 3, none⟩ (.int .i64 (L.getD m ⟨0, 0, 0⟩).n)).setCell ⟨b, k * 3 + 1, none⟩ (.int .i64 (L.getD m ⟨0, 0, 0⟩).i)).setCell ⟨b, k * 3 + 2, none⟩ (.int .i64 (L.getD m ⟨0, 0, 0⟩).j)).setCell ⟨b, m * 3, none⟩ (.int .i64 (L.getD k ⟨0, 0, 0⟩).n)) b (m * 3 + 1) (.int .i64 (L.getD k ⟨0, 0, 0⟩).i) (.inl rfl))).trans (Away.setCell (((((wo.setCell ⟨b, k * 3, none⟩ (.int .i64 (L.getD m ⟨0, 0, 0⟩).n)).setCell ⟨b, k * 3 + 1, none⟩ (.int .i64 (L.getD m ⟨0, 0, 0⟩).i)).setCell ⟨b, k * 3 + 2, none⟩ (.int .i64 (L.getD m ⟨0, 0, 0⟩).j)).setCell ⟨b, m * 3, none⟩ (.int .i64 (L.getD k ⟨0, 0, 0⟩).n)).setCell ⟨b, m * 3 + 1, none⟩ (.int .i64 (L.getD k ⟨0, 0, 0⟩).i)) b (m * 3 + 2) (.int .i64 (L.getD k ⟨0, 0, 0⟩).j) (.inl rfl)))
      have HP := Lib.hid hput
      have HA := Lib.hid haw2
      have hj1 : IntKind.i64.wrap ((m : Int) - 1) = (m : Int) - 1 := IntWalk.i64_in _ (by omega)
      have HM := Lib.hid hm
      clear hput haw2 hat haw ek em hm hmz
      generalize L.getD k ⟨0, 0, 0⟩ = vk at hck hck2 hck3 HP HA
      generalize L.getD m ⟨0, 0, 0⟩ = vm at hcm hcm2 hcm3 hc3 hc4 hc5 hf2 hf2b hf2c HP HA
      go_wp2_with fail
      go_region
      all_goals
        go_wp2_with fail
        go_roundg (L.length - (k + 1))
        case measure => omega
        case rel => exact ⟨k + 1, by omega, rfl, by go_num, by have := HM.out; congr 1; omega, HP.out.same rfl, HA.out.trans (Away.ofBelow ((Below.refl _ _).drew.mono HA.out.size))⟩
    · have hfin : MpAt wo b L.reverse := by rw [← revF_end (d := ⟨0, 0, 0⟩) (k := k) (by omega)]; exact hat
      have HF := Lib.hid hfin
      have HA := Lib.hid haw
      clear hat haw hfin
      go_wp2_with fail
      exact bodyPost_end (v := .tuple #[]) (by kernel_rfl) rfl ⟨rfl, HF.out, HA.out⟩

/-! ### whether two lists have the same rows -/
def sameP (xs ys : List Rk) : Bool := decide (xs.map (·.pre) = ys.map (·.pre))
theorem same1_any (F F2 : Nat → Prop) (w : World) (p q : List Int) (s1 s2 : Int) (A : Option Addr) (n c : Nat) (B : Option Addr) (m d : Nat) (v1 v2 : Value) (hp : IsSl Elt.int F w (.slice A n c) p) (hq : IsSl Elt.int F2 w (.slice B m d) q) (h1 : ∃ a b c, v1 = .slice a b c) (h2 : ∃ a b c, v2 = .slice a b c) :
    Calls Tryz.prog 51 #[.agg #[.int .i64 s1, .slice A n c, v1], .agg #[.int .i64 s2, .slice B m d, v2]] w fun e w' => e = .returned (.bool (decide (p = q))) ∧ Below w.heap.size w w' := by
  obtain ⟨a1, b1, c1, rfl⟩ := h1
  obtain ⟨a2, b2, c2, rfl⟩ := h2
  have hb2 := below2 w (.cells #[.int .i64 s1, .slice A n c, .slice a1 b1 c1] 90) (.cells #[.int .i64 s2, .slice B m d, .slice a2 b2 c2] 90)
  have heq := equal_int F F2 p q A n c B m d _ (hp.below hb2) (hq.below hb2)
  have HEQ := Lib.hid heq
  have hb2' := hb2
  clear heq
  go_enter Tryz.func51, Tryz.ntmps51
  go_wp2_with fail
  refine HEQ.out.mono ?_
  rintro e w' ⟨rfl, hb⟩
  go_wp2_with fail
  go_ret
  exact ⟨rfl, hb2'.trans (hb.mono hb2'.size)⟩

set_option maxRecDepth 100000 in
set_option maxHeartbeats 1600000 in
theorem eqf_any (F F2 : Nat → Prop) (xs ys : List Rk) (A : Option Addr) (c : Nat) (B : Option Addr) (d : Nat) (w : World) (ha : IsSl Elt.ranked F w (.slice A xs.length c) xs) (hb : IsSl Elt.ranked F2 w (.slice B ys.length d) ys) :
    Calls Tryz.prog 50 #[.slice A xs.length c, .slice B ys.length d, .func (.func 51) #[] #[]] w fun e w' => e = .returned (.bool (sameP xs ys)) ∧ Below w.heap.size w w' := by
  obtain ⟨-, hn⟩ := ha.len
  by_cases hl : xs.length = ys.length
  · obtain ⟨n, hxn⟩ : ∃ n, n = xs.length := ⟨_, rfl⟩
    have hyn : n = ys.length := hxn.trans hl
    rw [← hxn] at ha hn ⊢
    rw [← hyn] at hb ⊢
    have HX := Lib.hid hxn
    have HY := Lib.hid hyn
    clear hxn hyn hl
    go_enter Tryz.func50, Tryz.ntmps50
    go_wp2_with fail
    go_loopg [17] n (fun gk i wr => ∃ q : Nat, q ≤ n ∧ gk = n - q ∧ i = .int .i64 q ∧ Below w.heap.size w wr ∧ (xs.take q).map (·.pre) = (ys.take q).map (·.pre))
    case atStart => exact ⟨0, by omega, by omega, rfl, Below.refl _ _, rfl⟩
    case round =>
      obtain ⟨q, hq, rfl, rfl, hw, ht⟩ := hrel
      obtain ⟨wo, rfl⟩ : ∃ wo : World, wo = wr := ⟨_, rfl⟩
      by_cases hlt : q < n
      · have hqx : q < xs.length := by rw [← HX.out]; exact hlt
        have hqy : q < ys.length := by rw [← HY.out]; exact hlt
        obtain ⟨b, o, rfl, hF, hbl, h1, P, cp, R, cr, h2, hcp, hp, h3, hcr, _⟩ := (ha.below hw).rankedAt q hqx
        obtain ⟨b2, o2, rfl, hF2, hbl2, k1, P2, cp2, R2, cr2, k2, kcp, kp, k3, kcr, _⟩ := (hb.below hw).rankedAt q hqy
        have hqz : (q : Int) < (n : Int) := by omega
        have e1 : (xs.take (q + 1)).map (·.pre) = (xs.take q).map (·.pre) ++ [xs[q].pre] := by rw [List.take_succ_eq_append_getElem hqx, List.map_append]; rfl
        have e2 : (ys.take (q + 1)).map (·.pre) = (ys.take q).map (·.pre) ++ [ys[q].pre] := by rw [List.take_succ_eq_append_getElem hqy, List.map_append]; rfl
        have hne : xs[q].pre ≠ ys[q].pre → sameP xs ys = false := fun h => by
          unfold sameP
          rw [decide_eq_false_iff_not]
          intro e
          have := congrArg (fun l => l[q]?) e
          simp only [List.getElem?_map, List.getElem?_eq_getElem hqx, List.getElem?_eq_getElem hqy, Option.map_some, Option.some.injEq] at this
          exact h this
        generalize xs[q] = x at h1 h2 hcp hp h3 hcr e1 hne
        generalize ys[q] = y at k1 k2 kcp kp k3 kcr e2 hne
        obtain ⟨xz, xp, xr⟩ := x
        obtain ⟨yz, yp, yr⟩ := y
        simp only at h1 h2 hcp hp h3 hcr k1 k2 kcp kp k3 kcr e1 e2 hne
        have hB : Below wo.heap.size wo ((wo.alloc (.cells #[.int .i64 xz, .slice P xp.length cp, .slice R xr.length cr] 90)).alloc (.cells #[.int .i64 yz, .slice P2 yp.length cp2, .slice R2 yr.length cr2] 90)) := below2 wo _ _
        have hk1 : ∀ o, (wo.alloc o).cell? ⟨b2, o2 + q * 3, none⟩ = _ := fun o => cell_alloc_old k1 _
        have hk2 : ∀ o, (wo.alloc o).cell? ⟨b2, o2 + q * 3 + 1, none⟩ = _ := fun o => cell_alloc_old k2 _
        have hk3 : ∀ o, (wo.alloc o).cell? ⟨b2, o2 + q * 3 + 2, none⟩ = _ := fun o => cell_alloc_old k3 _
        have hsn := same1_any F F2 _ xp yp xz yz P xp.length cp P2 yp.length cp2 (.slice R xr.length cr) (.slice R2 yr.length cr2) (hp.below hB) (kp.below hB) ⟨_, _, _, rfl⟩ ⟨_, _, _, rfl⟩
        have E1 := Lib.hid e1
        have E2 := Lib.hid e2
        have HT := Lib.hid ht
        have HNE := Lib.hid hne
        clear e1 e2 ht hne hp kp hcp hcr kcp kcr
        by_cases he : xp = yp
        · have hd : decide (xp = yp) = true := by simpa using he
          rw [hd] at hsn
          have HE := Lib.hid he
          clear hd he
          go_wp2_with fail
          with_reducible refine hsn.mono ?_
          rintro e3 w3 ⟨rfl, hb3⟩
          go_wp2_with fail
          go_roundg (n - (q + 1))
          case measure => omega
          case rel => exact ⟨q + 1, by omega, rfl, by go_num, hw.trans ((hB.trans (hb3.mono hB.size)).mono hw.size), by rw [E1.out, E2.out, HT.out, HE.out]⟩
        · have hd : decide (xp = yp) = false := by simpa using he
          rw [hd] at hsn
          have HE := Lib.hid he
          clear hd he
          go_wp2_with fail
          with_reducible refine hsn.mono ?_
          rintro e3 w3 ⟨rfl, hb3⟩
          go_wp2_with fail
          go_ret
          exact ⟨congrArg (fun b => Ending.returned (Value.bool b)) (HNE.out HE.out).symm, hw.trans ((hB.trans (hb3.mono hB.size)).mono hw.size)⟩
      · obtain rfl : q = n := by omega
        have hs : sameP xs ys = true := by
          unfold sameP
          rw [decide_eq_true_eq]
          rw [List.take_of_length_le (by rw [← HX.out]; exact Nat.le_refl _), List.take_of_length_le (by rw [← HY.out]; exact Nat.le_refl _)] at ht
          exact ht
        have HS := Lib.hid hs
        clear hs ht
        go_wp2_with fail
        go_ret
        exact ⟨congrArg (fun b => Ending.returned (Value.bool b)) HS.out.symm, hw⟩
  · have hlz : ((xs.length : Int) != (ys.length : Int)) = true := by simp; omega
    have hs : sameP xs ys = false := by
      unfold sameP
      rw [decide_eq_false_iff_not]
      intro e
      have := congrArg List.length e
      rw [List.length_map, List.length_map] at this
      exact hl this
    have HS := Lib.hid hs
    clear hs hl
    go_enter Tryz.func50, Tryz.ntmps50
    go_wp2_with fail
    go_ret
    exact ⟨congrArg (fun b => Ending.returned (Value.bool b)) HS.out.symm, Below.refl _ _⟩
theorem msame_any (F F2 : Nat → Prop) (xs ys : List Rk) (A : Option Addr) (c : Nat) (B : Option Addr) (d : Nat) (w : World) (ha : IsSl Elt.ranked F w (.slice A xs.length c) xs) (hb : IsSl Elt.ranked F2 w (.slice B ys.length d) ys) :
    Calls Tryz.prog 28 #[.slice A xs.length c, .slice B ys.length d] w fun e w' => e = .returned (.bool (sameP xs ys)) ∧ Below w.heap.size w w' := by
  have H := Lib.hid (eqf_any F F2 xs ys A c B d w ha hb)
  clear ha hb
  go_enter Tryz.func28, Tryz.ntmps28
  go_wp2_with fail
  refine H.out.mono ?_
  rintro e w' ⟨rfl, hb⟩
  go_wp2_with fail
  go_ret
  exact ⟨rfl, hb⟩

end Go.Proofs.YtdbkbkopcnkgcaaGreat
