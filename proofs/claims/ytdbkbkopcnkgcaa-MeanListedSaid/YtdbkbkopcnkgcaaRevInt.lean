import Derived.Test.YtdbkbkopcnkgcaaCopy
import Derived.Test.YtdbkbkopcnkgcaaOwn
open Go Go.RowKit
namespace Go.Proofs.Ytdbkbkopcnkgcaa

/-! ### slices.Clone and slices.Reverse of integers -/
section
variable {α : Type}
/-- the first and the last k are turned round -/
def revF (d : α) (L : List α) (k : Nat) : List α := (List.range L.length).map fun z => if z < k ∨ L.length ≤ z + k then L.getD (L.length - 1 - z) d else L.getD z d
theorem revF_len {d : α} {L : List α} {k : Nat} : (revF d L k).length = L.length := by unfold revF; simp
theorem revF_get {d : α} {L : List α} {k z : Nat} (h : z < L.length) : (revF d L k)[z]? = some (if z < k ∨ L.length ≤ z + k then L.getD (L.length - 1 - z) d else L.getD z d) := by
  unfold revF
  rw [List.getElem?_map, List.getElem?_range h]; rfl
theorem revF_zero {d : α} {L : List α} : revF d L 0 = L := by
  refine List.ext_getElem? fun z => ?_
  by_cases h : z < L.length
  · rw [revF_get h, if_neg (by omega), List.getD_eq_getElem?_getD, List.getElem?_eq_getElem h]; rfl
  · rw [List.getElem?_eq_none (by rw [revF_len]; omega), List.getElem?_eq_none (by omega)]
theorem revF_end {d : α} {L : List α} {k : Nat} (hk : L.length ≤ 2 * k + 1) : revF d L k = L.reverse := by
  refine List.ext_getElem? fun z => ?_
  by_cases h : z < L.length
  · rw [revF_get h, List.getElem?_reverse h, List.getElem?_eq_getElem (by omega)]
    congr 1
    split
    · rw [List.getD_eq_getElem?_getD, List.getElem?_eq_getElem (by omega)]; rfl
    · have : z = L.length - 1 - z := by omega
      rw [List.getD_eq_getElem?_getD, List.getElem?_eq_getElem h]
      show L[z] = _
      congr 1
  · rw [List.getElem?_eq_none (by rw [revF_len]; omega), List.getElem?_eq_none (by rw [List.length_reverse]; omega)]
theorem revF_step {d : α} {L : List α} {k m : Nat} (hm : m = L.length - 1 - k) (hk : k < m) : ((revF d L k).set k (L.getD m d)).set m (L.getD k d) = revF d L (k + 1) := by
  refine List.ext_getElem? fun z => ?_
  rw [List.getElem?_set, List.length_set, List.getElem?_set, revF_len]
  by_cases h : z < L.length
  · rw [revF_get h, revF_get h]
    by_cases e1 : m = z
    · rw [if_pos e1, if_pos (by omega), if_pos (by omega)]
      rw [show L.length - 1 - z = k by omega]
    · rw [if_neg e1]
      by_cases e2 : k = z
      · rw [if_pos e2, if_pos (by omega), if_pos (by omega)]
        rw [show L.length - 1 - z = m by omega]
      · rw [if_neg e2]
        congr 1
        by_cases h1 : z < k ∨ L.length ≤ z + k
        · rw [if_pos h1, if_pos (by omega)]
        · rw [if_neg h1, if_neg (by omega)]
  · rw [if_neg (by omega), if_neg (by omega), List.getElem?_eq_none (by rw [revF_len]; omega), List.getElem?_eq_none (by rw [revF_len]; omega)]
end

/-- integers that lie at the beginning of a block -/
def IntsAt (w : World) (b : Nat) (L : List Int) : Prop := ∃ cs, w.heap[b]? = some (.cells cs 3 (0, 0)) ∧ ∀ z (h : z < L.length), cs[z]? = some (.int .i64 L[z])
theorem IntsAt.cell {w : World} {b : Nat} {L : List Int} (h : IntsAt w b L) {z : Nat} (hz : z < L.length) : w.cell? ⟨b, z, none⟩ = some (.int .i64 L[z]) := by
  obtain ⟨cs, h1, h2⟩ := h
  exact blk_cell h1 (h2 z hz)
theorem IntsAt.free {w : World} {b : Nat} {L : List Int} (h : IntsAt w b L) (z : Nat) : w.frozen? ⟨b, z, none⟩ = false := by
  obtain ⟨cs, h1, _⟩ := h
  exact blk_free h1
theorem IntsAt.set {w : World} {b : Nat} {L : List Int} (h : IntsAt w b L) (z : Nat) (v : Int) : IntsAt (w.setCell ⟨b, z, none⟩ (.int .i64 v)) b (L.set z v) := by
  obtain ⟨cs, h1, h2⟩ := h
  refine ⟨_, heap_set h1 _ _, fun y hy => ?_⟩
  rw [List.length_set] at hy
  rw [List.getElem_set, Array.getElem?_setIfInBounds]
  by_cases e : z = y
  · subst e
    rw [if_pos rfl, if_pos rfl]
    have := h2 z hy
    have hlt : z < cs.size := (Array.getElem?_eq_some_iff.1 this).1
    rw [if_pos hlt]
  · rw [if_neg e, if_neg e]
    exact h2 y hy
theorem IntsAt.same {w w' : World} {b : Nat} {L : List Int} (h : IntsAt w b L) (e : w'.heap[b]? = w.heap[b]?) : IntsAt w' b L := by
  obtain ⟨cs, h1, h2⟩ := h
  exact ⟨cs, e.trans h1, h2⟩
theorem IntsAt.isSl {w : World} {b : Nat} {L : List Int} (h : IntsAt w b L) (F : Nat → Prop) (hF : F b) (c : Nat) (hl : L.length ≤ 9223372036854775807) : IsSl Elt.int F w (.slice (some ⟨b, 0, none⟩) L.length c) L := by
  refine ⟨some ⟨b, 0, none⟩, c, rfl, hl, fun k hk => ?_⟩
  have h1 := h.cell hk
  refine ⟨b, 0, rfl, hF, cell_lt h1, hF, ?_⟩
  show w.cell? ⟨b, 0 + k * 1, none⟩ = _
  rw [Nat.zero_add, Nat.mul_one]
  exact h1

set_option maxRecDepth 100000 in
set_option maxHeartbeats 1600000 in
theorem reverse_int (L : List Int) (b c : Nat) (w : World) (hL : IntsAt w b L) (hl : L.length ≤ 1000000) :
    Calls Try.prog 22 #[.slice (some ⟨b, 0, none⟩) L.length c] w fun e w' => e = .returned (.tuple #[]) ∧ IntsAt w' b L.reverse ∧ Away w.heap.size (fun k => k = b) w w' := by
  go_enter Try.func22, Try.ntmps22
  go_wp2_with fail
  go_loopg [2, 3] L.length (fun gk iv jv wr => ∃ k : Nat, k ≤ L.length ∧ gk = L.length - k ∧ iv = .int .i64 k ∧ jv = .int .i64 ((L.length : Int) - 1 - k) ∧ IntsAt wr b (revF 0 L k) ∧ Away w.heap.size (fun k => k = b) w wr)
  case atStart => exact ⟨0, by omega, by omega, rfl, by simp, by rw [revF_zero]; exact hL, Away.refl _ _ _⟩
  case round =>
    clear hL
    obtain ⟨k, hk, rfl, rfl, rfl, hat, haw⟩ := hrel
    obtain ⟨wo, rfl⟩ : ∃ wo : World, wo = wr := ⟨_, rfl⟩
    by_cases hlt : (k : Int) < (L.length : Int) - 1 - k
    · obtain ⟨m, hm⟩ : ∃ m : Nat, m = L.length - 1 - k := ⟨_, rfl⟩
      have hmz : (L.length : Int) - 1 - k = (m : Int) := by omega
      rw [hmz] at hlt ⊢
      have hkm : k < m := by omega
      have hml : m < L.length := by omega
      have hmlz : (m : Int) < (L.length : Int) := by omega
      have hklz : (k : Int) < (L.length : Int) := by omega
      have hck := hat.cell (z := k) (by rw [revF_len]; omega)
      have hcm := hat.cell (z := m) (by rw [revF_len]; omega)
      have ek : (revF 0 L k)[k]'(by rw [revF_len]; omega) = L.getD k 0 := by
        have h := revF_get (d := (0 : Int)) (L := L) (k := k) (z := k) (by omega)
        rw [List.getElem?_eq_getElem (by rw [revF_len]; omega), if_neg (by omega)] at h
        exact Option.some.inj h
      have em : (revF 0 L k)[m]'(by rw [revF_len]; omega) = L.getD m 0 := by
        have h := revF_get (d := (0 : Int)) (L := L) (k := k) (z := m) (by omega)
        rw [List.getElem?_eq_getElem (by rw [revF_len]; omega), if_neg (by omega)] at h
        exact Option.some.inj h
      rw [ek] at hck
      rw [em] at hcm
      have hput := (hat.set k (L.getD m 0)).set m (L.getD k 0)
      rw [revF_step hm hkm] at hput
      have hf1 := hat.free k
      have hf2 := (hat.set k (L.getD m 0)).free m
      have hcm2 : ((wo.setCell ⟨b, k, none⟩ (.int .i64 (L.getD m 0))).cell? ⟨b, m, none⟩) = some (.int .i64 (L.getD m 0)) := by
        have h := (hat.set k (L.getD m 0)).cell (z := m) (by rw [List.length_set, revF_len]; omega)
        rw [List.getElem_set, if_neg (by omega), em] at h
        exact h
      have haw2 := (haw.trans (Away.setCell wo b k (.int .i64 (L.getD m 0)) (.inl rfl))).trans (Away.setCell (wo.setCell ⟨b, k, none⟩ (.int .i64 (L.getD m 0))) b m (.int .i64 (L.getD k 0)) (.inl rfl))
      have HP := Lib.hid hput
      have HA := Lib.hid haw2
      have hj1 : IntKind.i64.wrap ((m : Int) - 1) = (m : Int) - 1 := IntWalk.i64_in _ (by omega)
      have HM := Lib.hid hm
      clear hput haw2 hat haw ek em hm hmz
      generalize L.getD k 0 = vk at hck HP HA
      generalize L.getD m 0 = vm at hcm hcm2 hf2 HP HA
      go_wp2_with fail
      go_region
      all_goals
        go_wp2_with fail
        go_roundg (L.length - (k + 1))
        case measure => omega
        case rel => exact ⟨k + 1, by omega, rfl, by go_num, by have := HM.out; congr 1; omega, HP.out.same rfl, HA.out.trans (Away.ofBelow ((Below.refl _ _).drew.mono HA.out.size))⟩
    · have hfin : IntsAt wo b L.reverse := by rw [← revF_end (d := 0) (k := k) (by omega)]; exact hat
      have HF := Lib.hid hfin
      have HA := Lib.hid haw
      clear hat haw hfin
      go_wp2_with fail
      exact bodyPost_end (v := .tuple #[]) (by kernel_rfl) rfl ⟨rfl, HF.out, HA.out⟩

/-- symbols that lie at the beginning of a block -/
def SymsAt (w : World) (b : Nat) (L : List Sym) : Prop := ∃ cs, w.heap[b]? = some (.cells cs 37 (0, 0)) ∧ ∀ z (h : z < L.length), cs[z * 2]? = some (.bool L[z].t) ∧ cs[z * 2 + 1]? = some (.int .i64 L[z].n)
theorem SymsAt.cell {w : World} {b : Nat} {L : List Sym} (h : SymsAt w b L) {z : Nat} (hz : z < L.length) : w.cell? ⟨b, z * 2, none⟩ = some (.bool L[z].t) ∧ w.cell? ⟨b, z * 2 + 1, none⟩ = some (.int .i64 L[z].n) := by
  obtain ⟨cs, h1, h2⟩ := h
  exact ⟨blk_cell h1 (h2 z hz).1, blk_cell h1 (h2 z hz).2⟩
theorem SymsAt.free {w : World} {b : Nat} {L : List Sym} (h : SymsAt w b L) (z : Nat) : w.frozen? ⟨b, z, none⟩ = false := by
  obtain ⟨cs, h1, _⟩ := h
  exact blk_free h1
theorem SymsAt.set {w : World} {b : Nat} {L : List Sym} (h : SymsAt w b L) (z : Nat) (y : Sym) : SymsAt ((w.setCell ⟨b, z * 2, none⟩ (.bool y.t)).setCell ⟨b, z * 2 + 1, none⟩ (.int .i64 y.n)) b (L.set z y) := by
  obtain ⟨cs, h1, h2⟩ := h
  refine ⟨_, heap_set (heap_set h1 _ _) _ _, fun x hx => ?_⟩
  rw [List.length_set] at hx
  obtain ⟨k1, k2⟩ := h2 x hx
  have l1 : x * 2 < cs.size := (Array.getElem?_eq_some_iff.1 k1).1
  have l2 : x * 2 + 1 < cs.size := (Array.getElem?_eq_some_iff.1 k2).1
  rw [List.getElem_set]
  simp only [Array.getElem?_setIfInBounds, Array.size_setIfInBounds]
  by_cases e : z = x
  · subst e
    rw [if_pos rfl, if_neg (by omega), if_pos rfl, if_pos l1, if_pos rfl, if_pos l2]
    exact ⟨rfl, rfl⟩
  · rw [if_neg e, if_neg (by omega), if_neg (by omega), if_neg (by omega), if_neg (by omega)]
    exact ⟨k1, k2⟩
theorem SymsAt.same {w w' : World} {b : Nat} {L : List Sym} (h : SymsAt w b L) (e : w'.heap[b]? = w.heap[b]?) : SymsAt w' b L := by
  obtain ⟨cs, h1, h2⟩ := h
  exact ⟨cs, e.trans h1, h2⟩
theorem SymsAt.isSl {w : World} {b : Nat} {L : List Sym} (h : SymsAt w b L) (F : Nat → Prop) (hF : F b) (c : Nat) (hl : L.length ≤ 9223372036854775807) : IsSl Elt.sym F w (.slice (some ⟨b, 0, none⟩) L.length c) L := by
  refine ⟨some ⟨b, 0, none⟩, c, rfl, hl, fun k hk => ?_⟩
  obtain ⟨h1, h2⟩ := h.cell hk
  refine ⟨b, 0, rfl, hF, cell_lt h1, ⟨hF, ?_⟩, ⟨hF, ?_⟩⟩
  · show w.cell? ⟨b, 0 + k * 2, none⟩ = _
    rw [Nat.zero_add]; exact h1
  · show w.cell? ⟨b, 0 + k * 2 + 1, none⟩ = _
    rw [Nat.zero_add]; exact h2

set_option maxRecDepth 100000 in
set_option maxHeartbeats 3200000 in
theorem reverse_sym (L : List Sym) (b c : Nat) (w : World) (hL : SymsAt w b L) (hl : L.length ≤ 1000000) :
    Calls Try.prog 69 #[.slice (some ⟨b, 0, none⟩) L.length c] w fun e w' => e = .returned (.tuple #[]) ∧ SymsAt w' b L.reverse ∧ Away w.heap.size (fun k => k = b) w w' := by
  go_enter Try.func69, Try.ntmps69
  go_wp2_with fail
  go_loopg [2, 3] L.length (fun gk iv jv wr => ∃ k : Nat, k ≤ L.length ∧ gk = L.length - k ∧ iv = .int .i64 k ∧ jv = .int .i64 ((L.length : Int) - 1 - k) ∧ SymsAt wr b (revF ⟨false, 0⟩ L k) ∧ Away w.heap.size (fun k => k = b) w wr)
  case atStart => exact ⟨0, by omega, by omega, rfl, by simp, by rw [revF_zero]; exact hL, Away.refl _ _ _⟩
  case round =>
    clear hL
    obtain ⟨k, hk, rfl, rfl, rfl, hat, haw⟩ := hrel
    obtain ⟨wo, rfl⟩ : ∃ wo : World, wo = wr := ⟨_, rfl⟩
    by_cases hlt : (k : Int) < (L.length : Int) - 1 - k
    · obtain ⟨m, hm⟩ : ∃ m : Nat, m = L.length - 1 - k := ⟨_, rfl⟩
      have hmz : (L.length : Int) - 1 - k = (m : Int) := by omega
      rw [hmz] at hlt ⊢
      have hkm : k < m := by omega
      have hml : m < L.length := by omega
      have hmlz : (m : Int) < (L.length : Int) := by omega
      have hklz : (k : Int) < (L.length : Int) := by omega
      obtain ⟨hck, hck2⟩ := hat.cell (z := k) (by rw [revF_len]; omega)
      obtain ⟨hcm, hcm2⟩ := hat.cell (z := m) (by rw [revF_len]; omega)
      have ek : (revF ⟨false, 0⟩ L k)[k]'(by rw [revF_len]; omega) = L.getD k ⟨false, 0⟩ := by
        have h := revF_get (d := (⟨false, 0⟩ : Sym)) (L := L) (k := k) (z := k) (by omega)
        rw [List.getElem?_eq_getElem (by rw [revF_len]; omega), if_neg (by omega)] at h
        exact Option.some.inj h
      have em : (revF ⟨false, 0⟩ L k)[m]'(by rw [revF_len]; omega) = L.getD m ⟨false, 0⟩ := by
        have h := revF_get (d := (⟨false, 0⟩ : Sym)) (L := L) (k := k) (z := m) (by omega)
        rw [List.getElem?_eq_getElem (by rw [revF_len]; omega), if_neg (by omega)] at h
        exact Option.some.inj h
      rw [ek] at hck hck2
      rw [em] at hcm hcm2
      have hput := (hat.set k (L.getD m ⟨false, 0⟩)).set m (L.getD k ⟨false, 0⟩)
      rw [revF_step hm hkm] at hput
      have hf1 := hat.free (k * 2)
      have hf1b := hat.free (k * 2 + 1)
      have hf2 := (hat.set k (L.getD m ⟨false, 0⟩)).free (m * 2)
      have hf2b := (hat.set k (L.getD m ⟨false, 0⟩)).free (m * 2 + 1)
      have hcs := (hat.set k (L.getD m ⟨false, 0⟩)).cell (z := m) (by rw [List.length_set, revF_len]; omega)
      rw [List.getElem_set, if_neg (by omega), em] at hcs
      obtain ⟨hc3, hc4⟩ := hcs
      have haw2 := (((haw.trans (Away.setCell wo b (k * 2) (.bool (L.getD m ⟨false, 0⟩).t) (.inl rfl))).trans (Away.setCell (wo.setCell ⟨b, k * 2, none⟩ (.bool (L.getD m ⟨false, 0⟩).t)) b (k * 2 + 1) (.int .i64 (L.getD m ⟨false, 0⟩).n) (.inl rfl))).trans (Away.setCell ((wo.setCell ⟨b, k * 2, none⟩ (.bool (L.getD m ⟨false, 0⟩).t)).setCell ⟨b, k * 2 + 1, none⟩ (.int .i64 (L.getD m ⟨false, 0⟩).n)) b (m * 2) (.bool (L.getD k ⟨false, 0⟩).t) (.inl rfl))).trans (Away.setCell (((wo.setCell ⟨b, k * 2, none⟩ (.bool (L.getD m ⟨false, 0⟩).t)).setCell ⟨b, k * 2 + 1, none⟩ (.int .i64 (L.getD m ⟨false, 0⟩).n)).setCell ⟨b, m * 2, none⟩ (.bool (L.getD k ⟨false, 0⟩).t)) b (m * 2 + 1) (.int .i64 (L.getD k ⟨false, 0⟩).n) (.inl rfl))
      have HP := Lib.hid hput
      have HA := Lib.hid haw2
      have hj1 : IntKind.i64.wrap ((m : Int) - 1) = (m : Int) - 1 := IntWalk.i64_in _ (by omega)
      have HM := Lib.hid hm
      clear hput haw2 hat haw ek em hm hmz
      generalize L.getD k ⟨false, 0⟩ = vk at hck hck2 HP HA
      generalize L.getD m ⟨false, 0⟩ = vm at hcm hcm2 hc3 hc4 hf2 hf2b HP HA
      go_wp2_with fail
      go_region
      all_goals
        go_wp2_with fail
        go_roundg (L.length - (k + 1))
        case measure => omega
        case rel => exact ⟨k + 1, by omega, rfl, by go_num, by have := HM.out; congr 1; omega, HP.out.same rfl, HA.out.trans (Away.ofBelow ((Below.refl _ _).drew.mono HA.out.size))⟩
    · have hfin : SymsAt wo b L.reverse := by rw [← revF_end (d := ⟨false, 0⟩) (k := k) (by omega)]; exact hat
      have HF := Lib.hid hfin
      have HA := Lib.hid haw
      clear hat haw hfin
      go_wp2_with fail
      exact bodyPost_end (v := .tuple #[]) (by kernel_rfl) rfl ⟨rfl, HF.out, HA.out⟩

/-- of an empty slice nothing is turned -/
theorem reverse_none (w : World) : Calls Try.prog 69 #[.slice none 0 0] w fun e w' => e = .returned (.tuple #[]) ∧ w' = w := by
  go_enter Try.func69, Try.ntmps69
  go_wp2_with fail
  go_loopg [2, 3] 0 (fun gk iv jv wr => gk = 0 ∧ iv = .int .i64 0 ∧ jv = .int .i64 (-1) ∧ wr = w)
  case atStart => exact ⟨rfl, rfl, rfl, rfl⟩
  case round =>
    obtain ⟨rfl, rfl, rfl, rfl⟩ := hrel
    go_wp2_with fail
    exact bodyPost_end (v := .tuple #[]) (by kernel_rfl) rfl ⟨rfl, rfl⟩
theorem reverse_none_int (w : World) : Calls Try.prog 22 #[.slice none 0 0] w fun e w' => e = .returned (.tuple #[]) ∧ w' = w := by
  go_enter Try.func22, Try.ntmps22
  go_wp2_with fail
  go_loopg [2, 3] 0 (fun gk iv jv wr => gk = 0 ∧ iv = .int .i64 0 ∧ jv = .int .i64 (-1) ∧ wr = w)
  case atStart => exact ⟨rfl, rfl, rfl, rfl⟩
  case round =>
    obtain ⟨rfl, rfl, rfl, rfl⟩ := hrel
    go_wp2_with fail
    exact bodyPost_end (v := .tuple #[]) (by kernel_rfl) rfl ⟨rfl, rfl⟩
theorem Try.infoIntR : (Try.prog.info? 3).map (fun i => (i.zero, i.size, i.bytes)) = some (some (.int .i64 0), 1, 8) := by kernel_rfl
theorem sl_ints {F : Nat → Prop} {w : World} {A : Option Addr} {n c : Nat} {l : List Int} (h : IsSl Elt.int F w (.slice A n c) l) (a : Addr) (ha : A = some a) (j : Nat) (u : Value) (hj : (l.map (Value.int .i64))[j]? = some u) : w.cell? (a.add j) = some u := by
  rw [List.getElem?_map] at hj
  cases hl : l[j]? with
  | none => rw [hl] at hj; cases hj
  | some v =>
    rw [hl] at hj
    injection hj with hj
    obtain ⟨hjl, hv⟩ := List.getElem?_eq_some_iff.1 hl
    obtain ⟨b, o, rfl, hF, hlt, hc⟩ := h.oneAt j hjl
    injection ha with ha
    subst ha
    have e : (⟨b, o, none⟩ : Addr).add j = ⟨b, o + j, none⟩ := by unfold Addr.add; split <;> simp_all
    rw [e, hc, hv, ← hj]
theorem ints_one (l : List Int) : ∀ u ∈ l.map (Value.int .i64), u.oneCell' = true := by
  intro u hu
  obtain ⟨v, _, rfl⟩ := List.mem_map.1 hu
  rfl
set_option maxRecDepth 100000 in
/-- slices.Clone of integers -/
theorem clone_ints (F : Nat → Prop) (l : List Int) (A : Option Addr) (n c : Nat) (w : World) (hl : IsSl Elt.int F w (.slice A n c) l) (hn : l.length ≤ 1000000) :
    Calls Try.prog 21 #[.slice A n c] w fun e w' => ∃ A' c', e = .returned (.slice A' l.length c') ∧ Below w.heap.size w w' ∧ w'.ownsRow w.heap.size 3 1 (.slice A' l.length c') l.length ((l.map (Value.int .i64))) := by
  obtain ⟨rfl, hmx⟩ := hl.len
  obtain ⟨ip, hip, h0, h2, h3⟩ := info_parts Try.infoIntR
  cases A with
  | none =>
    have hz := sl_none hl rfl
    have hl0 : l = [] := List.eq_nil_of_length_eq_zero hz
    subst hl0
    have hu : ∀ (w : World) (n : Nat), (binOp .eql 22 (.slice none n c) (.slice none 0 0)).run Try.prog w = .ok (.bool true) w := fun w n => Lib.run_eql_slice_nil w _ _ none n c 0 0 Try.underlying22
    go_enter Try.func21, Try.ntmps21
    go_wp2
    go_ret
    exact ⟨none, 0, rfl, Below.refl _ _, World.ownsRow_nil _ _ _ _⟩
  | some a =>
    have hcells := sl_ints hl a rfl
    have HC := Lib.hid hcells
    have HN := Lib.hid hn
    have HL := Lib.hid hl
    clear hcells hn hl
    have hu : ∀ (w : World) (n : Nat), (binOp .eql 22 (.slice (some a) n c) (.slice none 0 0)).run Try.prog w = .ok (.bool false) w := fun w n => Lib.run_eql_slice_nil w _ _ (some a) n c 0 0 Try.underlying22
    go_enter Try.func21, Try.ntmps21
    go_wp2_with (first | (at_builtin; refine wpList_append_src _ rfl (.tmp 5) (.tmp 6) 22 rfl w.heap.size 3 ip (.int .i64 0) 1 8 Try.underlying22 hip h0 h2 h3 rfl (by decide) _ 0 [] rfl ?ho (some a) l.length c ((l.map (Value.int .i64))) rfl ?c0 ?c1 ?c2 ?c3 ?c4 ?c5 ?c6 ?_))
    case ho => exact ⟨rfl, .inr ⟨w.heap.size, 0, #[], rfl, Nat.le_refl _, heap_alloc_new w _, Nat.le_refl _, by unfold maxLen; omega, rfl, rfl⟩⟩
    case c0 => simp
    case c1 => intro h; cases h
    case c2 =>
      intro a' ha j u hj
      injection ha with ha
      subst ha
      have hlt := HC.out j u hj
      exact (World.cell?_of_block (w := w) (Below.heap_alloc w _ _ (World.block_lt_of_cell? w _ hlt))).trans hlt
    case c3 => exact ints_one l
    case c4 => have := HN.out; unfold maxLen; omega
    case c5 => have := HN.out; omega
    case c6 => rw [World.size_alloc]; omega
    intro v' w1 hown hg _
    obtain ⟨A', c', rfl⟩ := own_form hown
    go_wp2
    go_ret
    refine ⟨A', c', by simp, ?_, hown⟩
    exact ((Below.refl _ _).alloc (Nat.le_refl _) _).grown hg (by simp) (fun k hk => by
      have : k = w.heap.size := by simpa [Value.ownBlock] using hk.symm
      omega)

theorem rev_clone {w : World} {base c : Nat} {A : Option Addr} {x : List Int} (h : w.ownsRow base 3 1 (.slice A x.length c) x.length (x.map (Value.int .i64))) (hl : x.length ≤ 1000000) :
    Calls Try.prog 22 #[.slice A x.length c] w fun e w' => e = .returned (.tuple #[]) ∧ IsSl Elt.int (fun b => base ≤ b) w' (.slice A x.length c) x.reverse ∧ Below base w w' := by
  rcases h.2 with ⟨he, hn⟩ | ⟨g', cap, cur, he, _⟩
  · injection he with e1 e2 e3
    subst e1
    subst e3
    have hx : x = [] := List.eq_nil_of_length_eq_zero hn
    subst hx
    refine (reverse_none_int w).mono ?_
    rintro e w' ⟨rfl, rfl⟩
    exact ⟨rfl, ⟨none, 0, rfl, by simp, fun k hk => absurd hk (by simp)⟩, Below.refl _ _⟩
  · injection he with e1 e2 e3
    subst e1
    obtain ⟨cs, hcs, hb⟩ := own_typed h g' rfl
    have hat : IntsAt w g' x := ⟨cs, hcs, fun z hz => by
      have k1 := h.cells (g := g') rfl z (.int .i64 x[z]) (by rw [List.getElem?_map, List.getElem?_eq_getElem hz]; rfl)
      rw [add_lit0, cell_of_row w g' _ cs _ _ hcs] at k1
      exact k1⟩
    refine (reverse_int x g' c w hat hl).mono ?_
    rintro e w' ⟨rfl, h2, ha⟩
    refine ⟨rfl, ?_, ?_⟩
    · have := h2.isSl (fun b => base ≤ b) hb c (by rw [List.length_reverse]; omega)
      rwa [List.length_reverse] at this
    · have hlt := blk_lt hcs
      exact (ha.mono (m := base) (G := fun _ => False) (by omega) fun b hb2 e => by omega).below fun _ _ h => h

end Go.Proofs.Ytdbkbkopcnkgcaa
