import Derived.Test.YtcndbohiiodndaaCykS
import Derived.Deep.DeepCutAuto
open Go Go.RowKit
namespace Go.Proofs.Ytcndbohiiodndaa

/-- the chart while a step is done -/
structure StepSt (F : Nat → Prop) (w wr : World) (bc : Nat) (g : Gram) (x : List Int) (A : Option Addr) (c : Nat) (B : Option Addr) (d : Nat) (hA : Option Addr) (hc : Nat) (iA : Option Addr) (ic : Nat) (H : List (List (List (Nat × Nat)))) (I : List (List (Nat × Nat)))
    (M : Nat → Nat → Nat → Nat → Bool) (K : Nat → Nat → Nat → Bool) (M' : Nat → Nat → Nat → Nat → Bool) (K' : Nat → Nat → Nat → Bool) (i j : Nat) : Prop where
  chart : ChartAt F wr bc g x A c B d hA hc iA ic H I M' K'
  away : Away w.heap.size (LeafB H I) w wr
  sound : SoundC g x M' K'
  same : SameC M K M' K' i j

def PZero (g : Gram) (x : List Int) (M : Nat → Nat → Nat → Nat → Bool) (K : Nat → Nat → Nat → Bool) (i j n : Nat) : Prop := ∀ m (h : m < g.rules.length), m < n → ClosedN g x M K i j m h
def NextC (g : Gram) (x : List Int) (M : Nat → Nat → Nat → Nat → Bool) (K : Nat → Nat → Nat → Bool) (i j n e k0 : Nat) : Prop := ∀ (hn : n < g.rules.length) (he : e < g.rules[n].r.length) k, i ≤ k → k < k0 → k ≤ j → M i k n e = true → symK x K g.rules[n].r[e] k j = true → M i j n (e + 1) = true
def POne (g : Gram) (x : List Int) (M : Nat → Nat → Nat → Nat → Bool) (K : Nat → Nat → Nat → Bool) (i j n : Nat) : Prop := PZero g x M K i j n ∧ (i = j → M i j n 0 = true)
def PTwo (g : Gram) (x : List Int) (M : Nat → Nat → Nat → Nat → Bool) (K : Nat → Nat → Nat → Bool) (i j n e : Nat) : Prop := POne g x M K i j n ∧ ∀ d, d < e → NextC g x M K i j n d (j + 1)
def PThree (g : Gram) (x : List Int) (M : Nat → Nat → Nat → Nat → Bool) (K : Nat → Nat → Nat → Bool) (i j n e k : Nat) : Prop := PTwo g x M K i j n e ∧ NextC g x M K i j n e k

section
variable {F : Nat → Prop} {w wr w' : World} {bc : Nat} {g : Gram} {x : List Int} {A : Option Addr} {c : Nat} {B : Option Addr} {d : Nat} {hA : Option Addr} {hc : Nat} {iA : Option Addr} {ic : Nat} {H : List (List (List (Nat × Nat)))} {I : List (List (Nat × Nat))} {M M' : Nat → Nat → Nat → Nat → Bool} {K K' : Nat → Nat → Nat → Bool} {i j : Nat} {m : Value} {P Q : Prop}

theorem PassC.mono (h : PassC g m M K M' K' i j P) (hPQ : M' = M → K' = K → P → Q) : PassC g m M K M' K' i j Q := by
  rcases h with h | ⟨h1, h2, h3, h4⟩
  · exact .inl h
  · exact .inr ⟨h1, h2, h3, hPQ h2 h3 h4⟩
theorem PassC.setM (h : PassC g m M K M' K' i j P) {n e : Nat} (hn : n < g.rules.length) (he : e < 5) (hf : M' i j n e = false) : PassC g (.bool true) M K (setM M' i j n e) K' i j Q := by
  have hr := room_setM (K := K') hn he hf
  rcases h with ⟨_, h⟩ | ⟨_, rfl, rfl, _⟩
  · exact .inl ⟨rfl, by omega⟩
  · exact .inl ⟨rfl, hr⟩
theorem PassC.setK (h : PassC g m M K M' K' i j P) {n : Nat} (hn : n < 10) (hf : K' i j n = false) : PassC g (.bool true) M K M' (setK K' i j n) i j Q := by
  have hr := room_setK (g := g) (M := M') hn hf
  rcases h with ⟨_, h⟩ | ⟨_, rfl, rfl, _⟩
  · exact .inl ⟨rfl, by omega⟩
  · exact .inl ⟨rfl, hr⟩

theorem Grid.nleaf {hv iv : Value} (h : Grid g x F w hv iv H I) {b : Nat} (hb : F b) : ¬ LeafB H I b := by
  rintro ⟨p, hp, rfl⟩
  exact h.out p hp hb

theorem StepSt.below (h : StepSt F w wr bc g x A c B d hA hc iA ic H I M K M' K' i j) (hb : Below wr.heap.size wr w') : StepSt F w w' bc g x A c B d hA hc iA ic H I M K M' K' i j :=
  ⟨h.chart.below hb, h.away.trans ((Away.ofBelow hb).mono h.away.size fun _ _ h => h), h.sound, h.same⟩
theorem StepSt.setM (h : StepSt F w wr bc g x A c B d hA hc iA ic H I M K M' K' i j) (hi : i ≤ x.length) (hj : j ≤ x.length) {n e : Nat} (hn : n < g.rules.length) (hd : Drv g x (g.rules[n].r.take e) i j) :
    StepSt F w (wr.setCell ⟨(at3 H i j n).1, e, none⟩ (.bool true)) bc g x A c B d hA hc iA ic H I M K (setM M' i j n e) K' i j :=
  ⟨h.chart.setM hi hj hn e, h.away.trans (Away.setCell _ _ _ _ (.inl (h.chart.grid.leaf3 hi hj hn))), h.sound.setM fun _ _ => hd, h.same.setM⟩
theorem StepSt.setK (h : StepSt F w wr bc g x A c B d hA hc iA ic H I M K M' K' i j) (hi : i ≤ x.length) (hj : j ≤ x.length) {n : Nat} (hd : Drv g x [⟨false, n⟩] i j) :
    StepSt F w (wr.setCell ⟨(at2 I i j).1, n, none⟩ (.bool true)) bc g x A c B d hA hc iA ic H I M K M' (setK K' i j n) i j :=
  ⟨h.chart.setK hi hj n, h.away.trans (Away.setCell _ _ _ _ (.inl (h.chart.grid.leaf2 hi hj))), h.sound.setK hd, h.same.setK⟩

theorem leaf_ne3 (hb : BitsAt g x w H I M K) (hi : i ≤ x.length) (hj : j ≤ x.length) {n b : Nat} (hn : n < g.rules.length) {cs : Array Value} {T : TypeId} {fr : Nat × Nat} (h : w.heap[b]? = some (.cells cs T fr)) (hT : T ≠ 4) : b ≠ (at3 H i j n).1 := fun e => by
  have h2 := hb.has i j n hi hj hn
  rw [← e, h] at h2
  injection h2 with h2
  injection h2 with _ h2
  exact hT h2
theorem leaf_ne2 (hb : BitsAt g x w H I M K) (hi : i ≤ x.length) (hj : j ≤ x.length) {b : Nat} {cs : Array Value} {T : TypeId} {fr : Nat × Nat} (h : w.heap[b]? = some (.cells cs T fr)) (hT : T ≠ 4) : b ≠ (at2 I i j).1 := fun e => by
  have h2 := hb.is i j hi hj
  rw [← e, h] at h2
  injection h2 with h2
  injection h2 with _ h2
  exact hT h2

/-- what a step leaves -/
def StepEnd (F : Nat → Prop) (w w' : World) (e : Ending) (bc : Nat) (g : Gram) (x : List Int) (A : Option Addr) (c : Nat) (B : Option Addr) (d : Nat) (hA : Option Addr) (hc : Nat) (iA : Option Addr) (ic : Nat) (H : List (List (List (Nat × Nat)))) (I : List (List (Nat × Nat)))
    (M : Nat → Nat → Nat → Nat → Bool) (K : Nat → Nat → Nat → Bool) (i j : Nat) : Prop :=
  ∃ m M' K', e = .returned m ∧ StepSt F w w' bc g x A c B d hA hc iA ic H I M K M' K' i j ∧ PassC g m M K M' K' i j (ClosedC g x M K i j)

set_option maxRecDepth 100000 in
set_option maxHeartbeats 4000000 in
theorem step_any (w : World) (h : ChartAt F w bc g x A c B d hA hc iA ic H I M K) (hs : SoundC g x M K) (hv : Valid g) (hm : x.length ≤ 12) (hij : i ≤ j) (hj : j ≤ x.length) :
    Calls Try.prog 89 #[.pointer (some ⟨bc, 0, none⟩), .int .i64 i, .int .i64 j] w fun e w' => StepEnd F w w' e bc g x A c B d hA hc iA ic H I M K i j := by
  have hi : i ≤ x.length := by omega
  have h32 := hv.len
  have hk3 := blk_cell h.blk (i := 3) rfl
  have hro := h.rules.old
  have hnl : ∀ b, F b → ¬ LeafB H I b := fun b hb => h.grid.nleaf hb
  have HNL := Lib.hid hnl
  clear hnl
  go_enter Try.func89, Try.ntmps89
  go_wp2_with fail
  clear hk3
  go_loopg [7, 19] g.rules.length (fun gk m q wr => ∃ (n : Nat) (M' : Nat → Nat → Nat → Nat → Bool) (K' : Nat → Nat → Nat → Bool), n ≤ g.rules.length ∧ gk = g.rules.length - n ∧ q = .int .i64 n ∧ StepSt F w wr bc g x A c B d hA hc iA ic H I M K M' K' i j ∧ PassC g m M K M' K' i j (PZero g x M K i j n))
  case atStart => exact ⟨0, M, K, by omega, by omega, rfl, ⟨h, Away.refl _ _ _, hs, SameC.refl _ _ _ _⟩, .inr ⟨rfl, rfl, rfl, fun m h hm => by omega⟩⟩
  case round =>
    obtain ⟨n, M', K', hn, rfl, rfl, hT, hP⟩ := hrel
    obtain ⟨wo, rfl⟩ : ∃ wo : World, wo = wr := ⟨_, rfl⟩
    by_cases hlt : n < g.rules.length
    · obtain ⟨b, o, rfl, hFb, hlb, hc1, A', c', hc2, hsy⟩ := hro.ruleAt n hlt
      have hok := hv.ok g.rules[n] (by simp)
      have l0 := hok.l0
      have l1 := hok.l1
      have ln := hok.len
      have hkb := hT.away.block b hFb.2 (HNL.out b hFb.1)
      have hd1 := (World.cell?_of_block (w := w) (a := ⟨b, o + n * 2, none⟩) hkb).trans hc1
      have hd2 := (World.cell?_of_block (w := w) (a := ⟨b, o + n * 2 + 1, none⟩) hkb).trans hc2
      have hnz : (n : Int) < (g.rules.length : Int) := by omega
      clear hc1 hc2 hkb
      go_upto_region 5 with (fail)
      have hbx := heap_alloc_new wo (.cells #[.int .i64 g.rules[n].l, .slice A' g.rules[n].r.length c'] 60)
      have hT1 := hT.below (below1 wo (.cells #[.int .i64 g.rules[n].l, .slice A' g.rules[n].r.length c'] 60))
      have HBX := Lib.hid hbx
      clear hd1 hd2 hT hbx
      generalize wo.alloc (.cells #[.int .i64 g.rules[n].l, .slice A' g.rules[n].r.length c'] 60) = w1 at *
      have hiz : (i : Int) ≤ (x.length : Int) := by omega
      have hjz : (j : Int) ≤ (x.length : Int) := by omega
      obtain ⟨b1, o1, b2, o2, b3, o3, c2, c3, l3, hA1, k1, k2, hn3, k3, k4, k5⟩ := hT1.chart.hasCell (e := 0) hi hj hlt (Nat.zero_le _)
      have kb5 := blk_cell hT1.chart.blk (i := 5) rfl
      have hnl3 : (n : Int) < (l3 : Int) := by omega
      have HA1 := Lib.hid hA1
      clear hA1
      rw [HA1.out] at kb5
      go_cut [44] (fun s44 wr => ∃ B0 : Bool, s44 = .bool B0 ∧ Hid (B0 = (decide (i = j) && !M' i j n 0)) ∧ wr = w1)
      case first =>
        by_cases hij2 : i = j
        · have e1 : ((i : Int) == (j : Int)) = true := by simp [hij2]
          have HI2 := Lib.hid hij2
          clear hij2
          go_wp2_with fail
          go_meet
          exact ⟨_, rfl, Lib.hid (by simp [HI2.out]), rfl⟩
        · have e1 : ((i : Int) == (j : Int)) = false := by simp; omega
          go_wp2_with fail
          go_meet
          exact ⟨_, rfl, Lib.hid (by simp [hij2]), rfl⟩
      case rest =>
      obtain ⟨B0, rfl, HB0, rfl⟩ := hcut
      go_upto_if 44 with (fail)
      go_cut [7] (fun s7 wr => ∃ M2, StepSt F w wr bc g x (some ⟨b, o, none⟩) c B d hA hc iA ic H I M K M2 K' i j ∧ PassC g s7 M K M2 K' i j (POne g x M K i j n) ∧ wr.heap[wo.heap.size]? = some (.cells #[.int .i64 g.rules[n].l, .slice A' g.rules[n].r.length c'] 60 (0, 0)))
      case first =>
        cases B0
        · have hP2 : PassC g u7 M K M' K' i j (POne g x M K i j n) := hP.mono fun e1 e2 h => ⟨h, fun e3 => by
            have hb := HB0.out
            rw [← e1]
            simp [e3] at hb
            subst e3
            exact hb⟩
          go_wp2_with fail
          go_meet
          exact ⟨_, hT1, hP2, HBX.out⟩
        · have hf : M' i j n 0 = false := by have hb := HB0.out; simp at hb; exact hb.2
          have hT2 := hT1.setM hi hj (e := 0) hlt (by have hb := HB0.out; simp at hb; have hij2 := hb.1; subst hij2; exact .nil _ hi)
          have hP2 : PassC g (.bool true) M K (setM M' i j n 0) K' i j (POne g x M K i j n) := hP.setM hlt (by omega) hf
          have hne : wo.heap.size ≠ (at3 H i j n).1 := fun e => by
            have h1 := HBX.out
            have h2 := hT1.chart.bits.has i j n hi hj hlt
            rw [e, h2] at h1
            injection h1 with h1
            injection h1 with _ h1
            exact absurd h1 (by decide)
          have hbx2 := (heap_set_ne hne 0 (.bool true)).trans HBX.out
          clear hf hP
          go_wp2_with fail
          go_meet
          exact ⟨_, hT2, hP2, hbx2⟩
      case rest =>
      obtain ⟨M2, hT2, hP2, hbx2⟩ := hcut
      clear hP hT1 k1 k2 k3 k4 k5 kb5 HBX HA1
      have hq1 := blk_cell hbx2 (i := 1) rfl
      go_wp2_with fail
      clear hq1
      go_loopg [7, 62] g.rules[n].r.length (fun gk m q wr => ∃ (e : Nat) (M2 : Nat → Nat → Nat → Nat → Bool), e ≤ g.rules[n].r.length ∧ gk = g.rules[n].r.length - e ∧ q = .int .i64 e ∧ StepSt F w wr bc g x (some ⟨b, o, none⟩) c B d hA hc iA ic H I M K M2 K' i j ∧ PassC g m M K M2 K' i j (PTwo g x M K i j n e) ∧ wr.heap[wo.heap.size]? = some (.cells #[.int .i64 g.rules[n].l, .slice A' g.rules[n].r.length c'] 60 (0, 0)))
      case atStart => exact ⟨0, M2, by omega, by omega, rfl, hT2, hP2.mono fun _ _ h => ⟨h, fun d hd => by omega⟩, hbx2⟩
      case round =>
        clear hT2 hP2 hbx2
        obtain ⟨e, M2, he, rfl, rfl, hT2, hP2, hbx2⟩ := hrel
        obtain ⟨wi, rfl⟩ : ∃ wi : World, wi = wr := ⟨_, rfl⟩
        by_cases hlt2 : e < g.rules[n].r.length
        · obtain ⟨b5, o5, rfl, hF5, hl5, hs1, hs2⟩ := hsy.symAt e hlt2
          have hk5 := hT2.away.block b5 hF5.2 (HNL.out b5 hF5.1)
          have ht1 := (World.cell?_of_block (w := w) (a := ⟨b5, o5 + e * 2, none⟩) hk5).trans hs1
          have ht2 := (World.cell?_of_block (w := w) (a := ⟨b5, o5 + e * 2 + 1, none⟩) hk5).trans hs2
          have hsym := hok.syms g.rules[n].r[e] (by simp)
          have hy0 := hsym.n0
          have hyn := hsym.nn
          obtain ⟨y, hy⟩ : ∃ y, g.rules[n].r[e] = y := ⟨_, rfl⟩
          rw [hy] at ht1 ht2 hy0 hyn
          have HY := Lib.hid hy
          have hez : (e : Int) < (g.rules[n].r.length : Int) := by omega
          clear hs1 hs2 hk5 hsym hy
          go_wp2_with fail
          have hsb := heap_alloc_new wi (.cells #[.bool y.t, .int .i64 y.n] 67)
          have hT3 := hT2.below (below1 wi (.cells #[.bool y.t, .int .i64 y.n] 67))
          have hbx3 := blk_below (below1 wi (.cells #[.bool y.t, .int .i64 y.n] 67)) (blk_lt hbx2) hbx2
          have hlw := blk_lt hbx2
          clear hT2 hbx2 ht1 ht2
          go_loopg [7, 12] (j + 1 - i) (fun gk m q wr => ∃ (k : Nat) (M2 : Nat → Nat → Nat → Nat → Bool), i ≤ k ∧ k ≤ j + 1 ∧ gk = j + 1 - k ∧ q = .int .i64 k ∧ StepSt F w wr bc g x (some ⟨b, o, none⟩) c B d hA hc iA ic H I M K M2 K' i j ∧ PassC g m M K M2 K' i j (PThree g x M K i j n e k) ∧ wr.heap[wo.heap.size]? = some (.cells #[.int .i64 g.rules[n].l, .slice (some ⟨b5, o5, none⟩) g.rules[n].r.length c'] 60 (0, 0)) ∧ wr.heap[wi.heap.size]? = some (.cells #[.bool y.t, .int .i64 y.n] 67 (0, 0)))
          case atStart => exact ⟨i, M2, Nat.le_refl _, by omega, by omega, rfl, hT3, hP2.mono fun _ _ h => ⟨h, fun _ _ k h1 h2 => by omega⟩, hbx3, hsb⟩
          case round =>
            clear hT3 hP2 hbx3 hsb
            obtain ⟨k, M3, hik, hkj, rfl, rfl, hT3, hP3, hbx3, hsb⟩ := hrel
            by_cases hlt3 : k ≤ j
            · obtain ⟨b1, o1, b2, o2, b3, o3, c2, c3, l3, hA1, k1, k2, hn3, k3, k4, k5⟩ := hT3.chart.hasCell (e := e + 1) hi hj hlt (by omega)
              have kb5 := blk_cell hT3.chart.blk (i := 5) rfl
              have hnl3 : (n : Int) < (l3 : Int) := by omega
              have hkz : (k : Int) ≤ (j : Int) := by omega
              have HA1 := Lib.hid hA1
              clear hA1
              rw [HA1.out] at kb5
              obtain ⟨v1, hv1⟩ : ∃ v1, M3 i j n (e + 1) = v1 := ⟨_, rfl⟩
              rw [hv1] at k4
              have HV1 := Lib.hid hv1
              clear hv1
              cases v1
              · obtain ⟨b1', o1', b2', o2', b3', o3', c2', c3', l3', hA1', m1, m2, hn3', m3, m4, m5⟩ := hT3.chart.hasCell (i := i) (j := k) (e := e) hi (by omega) hlt (by omega)
                rw [HA1.out] at hA1'
                injection hA1' with hA1'
                injection hA1' with e1 e2 e3
                subst e1
                subst e2
                clear e3
                rw [k1] at m1
                injection m1 with m1
                injection m1 with e1 e2 e3
                injection e1 with e1
                injection e1 with e1 e4 e5
                subst e1
                subst e4
                subst e3
                clear e2 e5
                have hnl3' : (n : Int) < (l3' : Int) := by omega
                obtain ⟨v2, hv2⟩ : ∃ v2, M3 i k n e = v2 := ⟨_, rfl⟩
                rw [hv2] at m4
                have HV2 := Lib.hid hv2
                clear hv2
                have hkz2 : (k : Int) ≤ (x.length : Int) := by omega
                cases v2
                · go_wp2_with fail
                  go_roundg (j + 1 - (k + 1))
                  case measure => omega
                  case rel => exact ⟨k + 1, M3, by omega, by omega, rfl, by go_num, hT3, hP3.mono fun e1 e2 h => ⟨h.1, fun hn he k' h1 h2 h3 h4 h5 => by
                    by_cases ek : k' = k
                    · subst ek
                      rw [← e1, HV2.out] at h4
                      cases h4
                    · exact h.2 hn he k' h1 (by omega) h3 h4 h5⟩, hbx3, hsb⟩
                · have hs1 := blk_cell hsb (i := 0) rfl
                  have hs2 := blk_cell hsb (i := 1) rfl
                  have hsc := symbol_any y k j _ hT3.chart hm (by omega) hj hy0 hyn
                  unfold symV at hsc
                  go_wp2_with fail
                  refine hsc.mono ?_
                  rintro e6 w6 ⟨rfl, hb6⟩
                  have hT4 := hT3.below hb6
                  have hbx4 := blk_below hb6 (blk_lt hbx3) hbx3
                  have hsb4 := blk_below hb6 (blk_lt hsb) hsb
                  have q1 := (hb6.cell (p := ⟨b1, o1 + i, none⟩) (cell_lt k1)).trans k1
                  have q2 := (hb6.cell (p := ⟨b2, o2 + j, none⟩) (cell_lt k2)).trans k2
                  have q3 := (hb6.cell (p := ⟨b3, o3 + n, none⟩) (cell_lt k3)).trans k3
                  have q4 := (hb6.cell (p := ⟨(at3 H i j n).1, e + 1, none⟩) (cell_lt k4)).trans k4
                  have q5 := (hb6.frozen (p := ⟨(at3 H i j n).1, e + 1, none⟩) (cell_lt k4)).trans k5
                  have qb := blk_cell hT4.chart.blk (i := 5) rfl
                  rw [HA1.out] at qb
                  have hso := hT3.sound
                  obtain ⟨v3, hv3⟩ : ∃ v3, symK x K' y k j = v3 := ⟨_, rfl⟩
                  rw [hv3]
                  have HV3 := Lib.hid hv3
                  clear hv3 k1 k2 k3 k4 k5 m2 m3 m4 m5 kb5 hT3 hbx3 hsb hs1 hs2 hsc hb6
                  cases v3
                  · go_wp2_with fail
                    go_roundg (j + 1 - (k + 1))
                    case measure => omega
                    case rel => exact ⟨k + 1, M3, by omega, by omega, rfl, by go_num, hT4, hP3.mono fun e1 e2 h => ⟨h.1, fun hn he k' h1 h2 h3 h4 h5 => by
                      by_cases ek : k' = k
                      · subst ek
                        rw [HY.out, ← e2, HV3.out] at h5
                        cases h5
                      · exact h.2 hn he k' h1 (by omega) h3 h4 h5⟩, hbx4, hsb4⟩
                  · have hT5 := hT4.setM hi hj (e := e + 1) hlt (by
                      rw [List.take_succ_eq_append_getElem hlt2, HY.out]
                      exact drv_app (hso.has i k n hlt e (by omega) HV2.out) (symK_sound hso hy0 HV3.out))
                    have hP5 : PassC g (.bool true) M K (setM M3 i j n (e + 1)) K' i j (PThree g x M K i j n e (k + 1)) := hP3.setM hlt (by omega) HV1.out
                    have hbx5 := (heap_set_ne (leaf_ne3 hT4.chart.bits hi hj hlt hbx4 (by decide)) (e + 1) (.bool true)).trans hbx4
                    have hsb5 := (heap_set_ne (leaf_ne3 hT4.chart.bits hi hj hlt hsb4 (by decide)) (e + 1) (.bool true)).trans hsb4
                    clear hT4 hP3 hbx4 hsb4
                    go_wp2_with fail
                    go_roundg (j + 1 - (k + 1))
                    case measure => omega
                    case rel => exact ⟨k + 1, _, by omega, by omega, rfl, by go_num, hT5, hP5, hbx5, hsb5⟩
              · go_wp2_with fail
                go_roundg (g.rules[n].r.length - (e + 1))
                case measure => omega
                case rel => exact ⟨e + 1, M3, by omega, rfl, by go_num, hT3, hP3.mono fun e1 e2 h => ⟨h.1.1, fun d hd => by
                  by_cases ed : d = e
                  · subst ed
                    intro hn he k' h1 h2 h3 h4 h5
                    rw [← e1]; exact HV1.out
                  · exact h.1.2 d (by omega)⟩, hbx3⟩
            · obtain rfl : k = j + 1 := by omega
              have hkz : ¬ (((j + 1 : Nat) : Int) ≤ (j : Int)) := by omega
              go_wp2_with fail
              go_roundg (g.rules[n].r.length - (e + 1))
              case measure => omega
              case rel => exact ⟨e + 1, M3, by omega, rfl, by go_num, hT3, hP3.mono fun e1 e2 h => ⟨h.1.1, fun d hd => by
                by_cases ed : d = e
                · subst ed; exact h.2
                · exact h.1.2 d (by omega)⟩, hbx3⟩
        · obtain rfl : e = g.rules[n].r.length := by omega
          obtain ⟨b1, o1, b2, o2, b3, o3, c2, c3, l3, hA1, k1, k2, hn3, k3, k4, -⟩ := hT2.chart.hasCell (e := g.rules[n].r.length) hi hj hlt (Nat.le_refl _)
          have kb5 := blk_cell hT2.chart.blk (i := 5) rfl
          have hnl3 : (n : Int) < (l3 : Int) := by omega
          rw [hA1] at kb5
          have hq0 := blk_cell hbx2 (i := 0) rfl
          have hq1 := blk_cell hbx2 (i := 1) rfl
          have hcl : ∀ (P : M' = M2 → Prop), True := fun _ => trivial
          obtain ⟨v4, hv4⟩ : ∃ v4, M2 i j n g.rules[n].r.length = v4 := ⟨_, rfl⟩
          rw [hv4] at k4
          have HV4 := Lib.hid hv4
          clear hA1 hv4 hcl
          cases v4
          · go_wp2_with fail
            go_quiet (fail)
            go_wp2
            go_roundg (g.rules.length - (n + 1))
            case measure => omega
            case rel => exact ⟨n + 1, M2, K', by omega, rfl, by go_num, hT2.below (below_drewN (Below.refl _ _) _), hP2.mono fun e1 e2 h => fun q hq hqn => by
              by_cases eq : q = n
              · subst eq
                exact ⟨h.1.2, fun d hd k h1 h2 h3 h4 => h.2 d hd hlt hd k h1 (by omega) h2 h3 h4, fun h5 => by rw [← e1, HV4.out] at h5; cases h5⟩
              · exact h.1.1 q hq (by omega)⟩
          · obtain ⟨b1', o1', b2', o2', c2', m, hA2, m1, m2, m3, m4, m5⟩ := hT2.chart.isCell (n := g.rules[n].l.toNat) hi hj (by omega)
            have kb6 := blk_cell hT2.chart.blk (i := 6) rfl
            rw [hA2] at kb6
            have hlm : g.rules[n].l < (m : Int) := by omega
            obtain ⟨v5, hv5⟩ : ∃ v5, K' i j g.rules[n].l.toNat = v5 := ⟨_, rfl⟩
            rw [hv5] at m4
            have HV5 := Lib.hid hv5
            have HA2 := Lib.hid hA2
            clear hA2 hv5
            cases v5
            · have hso := hT2.sound
              have hdr : Drv g x [⟨false, g.rules[n].l.toNat⟩] i j := by
                have := hso.has i j n hlt _ (Nat.le_refl _) HV4.out
                rw [List.take_length] at this
                exact .non (List.getElem_mem hlt) (by omega) this (.nil _ hj)
              have HDR := Lib.hid hdr
              clear hdr
              go_wp2_with fail
              go_quiet (fail)
              go_wp2_with fail
              go_region
              have hT3 := (hT2.below (below_drewN (Below.refl _ wi) (nq + 1))).setK hi hj (n := g.rules[n].l.toNat) HDR.out
              have hP3 : PassC g (.bool true) M K M2 (setK K' i j g.rules[n].l.toNat) i j (PZero g x M K i j (n + 1)) := hP2.setK (by have := hv.n10; omega) HV5.out
              go_wp2
              go_roundg (g.rules.length - (n + 1))
              case measure => omega
              case rel => exact ⟨n + 1, M2, _, by omega, rfl, by go_num, hT3, hP3⟩
            · go_wp2_with fail
              go_quiet (fail)
              go_wp2
              go_roundg (g.rules.length - (n + 1))
              case measure => omega
              case rel => exact ⟨n + 1, M2, K', by omega, rfl, by go_num, hT2.below (below_drewN (Below.refl _ _) _), hP2.mono fun e1 e2 h => fun q hq hqn => by
                by_cases eq : q = n
                · subst eq
                  exact ⟨h.1.2, fun d hd k h1 h2 h3 h4 => h.2 d hd hlt hd k h1 (by omega) h2 h3 h4, fun h5 => by rw [← e2]; exact HV5.out⟩
                · exact h.1.1 q hq (by omega)⟩
    · obtain rfl : n = g.rules.length := by omega
      go_wp2_with fail
      go_ret
      exact ⟨_, M', K', rfl, hT, hP.mono fun _ _ h n hn => h n hn hn⟩
end
end Go.Proofs.Ytcndbohiiodndaa
