import Derived.Test.YtdbkbkopcnkgcaaTreeN
import Derived.Test.YtdbkbkopcnkgcaaSpoil
import Derived.Test.YtdbkbkopcnkgcaaSameT
import Derived.Test.YtdbkbkopcnkgcaaCopy
import Derived.Test.YtdbkbkopcnkgcaaParts
open Go Go.RowKit
namespace Go.Proofs.Ytdbkbkopcnkgcaa

/-! ### the law MeanOwn -/
set_option maxRecDepth 100000 in
set_option maxHeartbeats 6400000 in
theorem meanOwn_any (F F2 : Nat → Prop) (l l2 : List Int) (A : Option Addr) (n c : Nat) (A2 : Option Addr) (n2 c2' : Nat) (w : World) (hl : IsSl Elt.int F w (.slice A n c) l) (hl2 : IsSl Elt.int F2 w (.slice A2 n2 c2') l2) (hnc : n ≤ c) :
    Calls Try.prog 12 #[.slice A n c, .slice A2 n2 c2'] w fun e w' => e = .returned (.bool true) ∧ Below w.heap.size w w' := by
  go_enter Try.func12, Try.ntmps12
  go_wp2_with fail
  refine (made_any F F2 l l2 A n c A2 n2 c2' 4 _ hl hl2 hnc (by decide)).mono ?_
  rintro e1 w1 ⟨g, A', c', x, C, cx, rfl, hM⟩
  have hv := hM.small.valid
  have hx4 := hM.most
  have hcap := hM.cap
  have hcx := hM.capx
  have hok : OkWord g x := hM.terms
  have hw1 := hM.below
  have hbA := below1 w1 (.cells #[.int .i64 g.terms, .int .i64 g.nons, .int .i64 g.start, .slice A' g.rules.length c'] 25)
  have gg := heap_alloc_new w1 (.cells #[.int .i64 g.terms, .int .i64 g.nons, .int .i64 g.start, .slice A' g.rules.length c'] 25)
  have hrA := (hM.rules.below hbA).weak (G := fun _ => True) fun _ _ => trivial
  have hxA := (hM.word.below hbA).weak (G := fun _ => True) fun _ _ => trivial
  have hwA := hw1.trans (hbA.mono hw1.size)
  obtain ⟨M, hIM⟩ := isM_ex (g := g) (x := x) hv (by omega)
  obtain ⟨ts, err, hTR⟩ := tr_ex g x M 5
  have HIM := Lib.hid hIM
  have HTR := Lib.hid hTR
  unfold gramV
  clear hM hl hl2 hw1 hbA hIM hTR
  have hcp := copyOf_any _ g A' c' _ hrA hv
  unfold gramV at hcp
  have k0 := blk_cell gg (i := 0) rfl
  have k1 := blk_cell gg (i := 1) rfl
  have k2 := blk_cell gg (i := 2) rfl
  have k3 := blk_cell gg (i := 3) rfl
  go_wp2_with fail
  generalize w1.alloc (.cells #[.int .i64 g.terms, .int .i64 g.nons, .int .i64 g.start, .slice A' g.rules.length c'] 25) = W at hwA gg hrA hxA hcp k0 k1 k2 k3 ⊢
  generalize w1.heap.size = bg at gg k0 k1 k2 k3 ⊢
  refine hcp.mono ?_
  rintro e2 w2 ⟨Ac, cc, rfl, hb2, hcapc, hrc⟩
  have hcl := clone_ints _ x C _ cx _ (hxA.below hb2) (by omega)
  have gg2 := blk_below hb2 (blk_lt gg) gg
  have hrA2 := hrA.below hb2
  have hxA2 := hxA.below hb2
  have hw2 := hwA.trans (hb2.mono hwA.size)
  clear hcp k0 k1 k2 k3 gg hrA hxA hb2 hwA
  go_wp2_with fail
  refine hcl.mono ?_
  rintro e3 w3 ⟨Av, cv, rfl, hb3, hown⟩
  have hbB := below1 w3 (.cells #[.int .i64 g.terms, .int .i64 g.nons, .int .i64 g.start, .slice Ac g.rules.length cc] 25)
  have gh := heap_alloc_new w3 (.cells #[.int .i64 g.terms, .int .i64 g.nons, .int .i64 g.start, .slice Ac g.rules.length cc] 25)
  have hb3B := hb3.trans (hbB.mono hb3.size)
  have gg3 := blk_below hb3B (blk_lt gg2) gg2
  have hrA3 := hrA2.below hb3B
  have hxA3 := hxA2.below hb3B
  have hrc3 := (hrc.weak (G := fun _ => True) fun _ _ => trivial).below hb3B
  have hvc3 := ((own_ints hown).weak (G := fun _ => True) fun _ _ => trivial).below hbB
  have hcxv : x.length ≤ cv := own_cap hown
  have hw3 := hw2.trans (hb3B.mono hw2.size)
  have k0 := blk_cell gg3 (i := 0) rfl
  have k1 := blk_cell gg3 (i := 1) rfl
  have k2 := blk_cell gg3 (i := 2) rfl
  have k3 := blk_cell gg3 (i := 3) rfl
  clear hcl gg2 hrA2 hxA2 hrc hown hbB hb3 hb3B hw2
  go_wp2_with fail
  generalize w3.alloc (.cells #[.int .i64 g.terms, .int .i64 g.nons, .int .i64 g.start, .slice Ac g.rules.length cc] 25) = w4 at gh gg3 hrA3 hxA3 hrc3 hvc3 hw3 k0 k1 k2 k3 ⊢
  generalize w3.heap.size = bh at gh ⊢
  -- the first list
  have htr := treesN_any (fun _ => True) hv (by omega) w4 hcap hok hrA3 hxA3 5 (by decide) HIM.out HTR.out
  unfold gramV at htr
  refine htr.mono ?_
  rintro e5 w5 ⟨Aa, ca, rfl, hca, hsa, hb5⟩
  have gg5 := blk_below hb5 (blk_lt gg3) gg3
  have gh5 := blk_below hb5 (blk_lt gh) gh
  have hrA5 := hrA3.below hb5
  have hxA5 := hxA3.below hb5
  have hrc5 := hrc3.old.below hb5
  have hvc5 := hvc3.old.below hb5
  have hrO5 := hrA3.old.below hb5
  have hxO5 := hxA3.old.below hb5
  have hw5 := hw3.trans (hb5.mono hw3.size)
  have hs45 := hb5.size
  have HSZ := Lib.hid hw3.size
  have hgl := blk_lt gg3
  have hhl := blk_lt gh
  clear htr k0 k1 k2 k3 gg3 gh hrA3 hxA3 hrc3 hvc3 hw3 hb5
  -- the second list
  have htr := treesN_any (fun _ => True) hv (by omega) w5 hcap hok hrA5 hxA5 5 (by decide) HIM.out HTR.out
  unfold gramV at htr
  have k0 := blk_cell gg5 (i := 0) rfl
  have k1 := blk_cell gg5 (i := 1) rfl
  have k2 := blk_cell gg5 (i := 2) rfl
  have k3 := blk_cell gg5 (i := 3) rfl
  go_wp2_with fail
  refine htr.mono ?_
  rintro e6 w6 ⟨Ab, cb, rfl, hcb, hsb, hb6⟩
  have gg6 := blk_below hb6 (blk_lt gg5) gg5
  have gh6 := blk_below hb6 (blk_lt gh5) gh5
  have hrc6 := hrc5.below hb6
  have hvc6 := hvc5.below hb6
  have hrO6 := hrO5.below hb6
  have hxO6 := hxO5.below hb6
  have hs56 := hb6.size
  have hsa6 : IsSl Elt.tree (fun b => w4.heap.size ≤ b ∧ b < w5.heap.size ∧ Cel w6 b) w6 (.slice Aa ts.length ca) ts :=
    ((hsa.old).below hb6).weak fun b hb => ⟨hb.1.1, hb.2, hb.1.2.of (hb6.block b hb.2)⟩
  have hsb6 : IsSl Elt.tree (fun b => w5.heap.size ≤ b) w6 (.slice Ab ts.length cb) ts := hsb.weak fun b hb => hb.1
  have hw6 := hw5.trans (hb6.mono hw5.size)
  clear htr k0 k1 k2 k3 gg5 gh5 hrA5 hxA5 hrc5 hvc5 hrO5 hxO5 hsa hsb hw5 hb6
  obtain ⟨dn, hsd⟩ := hsa6.deep
  have HSA := Lib.hid hsd
  have HSB := Lib.hid hsb6
  have HRC := Lib.hid hrc6
  have HVC := Lib.hid hvc6
  have HRO := Lib.hid hrO6
  have HXO := Lib.hid hxO6
  have HGG := Lib.hid gg6
  have HGH := Lib.hid gh6
  have HW6 := Lib.hid hw6
  clear hsa6 hsb6 hsd hrc6 hvc6 hrO6 hxO6 gg6 gh6 hw6
  obtain ⟨m, hm⟩ : ∃ m, m = ts.length := ⟨_, rfl⟩
  rw [← hm] at HSA HSB ⊢
  have hmx : m ≤ 9223372036854775807 := by rw [hm]; obtain ⟨_, _, _, h, _⟩ := HSA.out; exact h
  have HMN := Lib.hid hm
  clear hm hca hcb
  go_wp2_with fail
  have hF : ∀ b, (w4.heap.size ≤ b ∧ b < w5.heap.size ∧ Cel w6 b) → b < w6.heap.size ∧ Cel w6 b := fun b hb => ⟨by omega, hb.2.2⟩
  have HF := Lib.hid hF
  clear hF
  go_loopg [39] m (fun gk i wr => ∃ q : Nat, q ≤ m ∧ gk = m - q ∧ i = .int .i64 q ∧ Ints (fun b => w4.heap.size ≤ b ∧ b < w5.heap.size ∧ Cel w6 b) w6 wr)
  case atStart => exact ⟨0, Nat.zero_le _, rfl, rfl, Ints.refl _ _⟩
  case round =>
    obtain ⟨q, hq, rfl, rfl, hi⟩ := hrel
    obtain ⟨wo, rfl⟩ : ∃ wo : World, wo = wr := ⟨_, rfl⟩
    by_cases hlt : q < m
    · have hqz : (q : Int) < (m : Int) := by omega
      have hla : m = ts.length := HMN.out
      obtain ⟨l', k1, k2⟩ := ints_sl hi (ints_E dn hi) HSA.out
      have hql : q < l'.length := by omega
      obtain ⟨A3, c3, k3, _, k4⟩ := k2
      obtain ⟨b2, o2, k5, k6, k7, k8⟩ := k4 q hql
      have hAA : Aa = A3 := by injection k3
      rw [trD_sz] at k8
      have hA : Aa = some ⟨b2, o2, none⟩ := hAA.trans k5
      have hcl := spoil_any dn (fun b => w4.heap.size ≤ b ∧ b < w5.heap.size ∧ Cel w6 b) wo b2 (o2 + q * 3) l'[q] k8 (fun p hp => by
        obtain ⟨p1, p2⟩ := HF.out p hp
        exact ⟨Nat.lt_of_lt_of_le p1 hi.away.size, hi.free p p1 p2⟩)
      have HCL := Lib.hid hcl
      clear hcl k4 k6 k7 k8 k3 k5 hAA hla
      subst hA
      go_wp2_with fail
      refine HCL.out.mono ?_
      rintro e5 w7 ⟨rfl, hi5⟩
      go_wp2_with fail
      go_roundg (m - (q + 1))
      case measure => omega
      case rel => exact ⟨q + 1, by omega, rfl, by go_num, hi.trans hi5⟩
    · obtain rfl : q = m := by omega
      clear HSA HF
      have haw := hi.away
      have hso := haw.size
      have hkp : ∀ b, b < w6.heap.size → (b < w4.heap.size ∨ w5.heap.size ≤ b) → wo.heap[b]? = w6.heap[b]? := fun b h1 h2 => haw.block b h1 (by omega)
      have gg8 := (hkp bg (by omega) (.inl hgl)).trans HGG.out
      have gh8 := (hkp bh (by omega) (.inl hhl)).trans HGH.out
      have hrc8 := HRC.out.keep (fun b hb => hkp b (by omega) (.inl hb.2)) hso
      have hvc8 := HVC.out.keep (fun b hb => hkp b (by omega) (.inl hb.2)) hso
      have hrO8 := HRO.out.keep (fun b hb => hkp b (by omega) (.inl hb.2)) hso
      have hxO8 := HXO.out.keep (fun b hb => hkp b (by omega) (.inl hb.2)) hso
      have hsb8 := HSB.out.old.keep (fun b hb => hkp b hb.2 (.inr hb.1)) hso
      have hw8 : Below w.heap.size w wo := by
        have h1 := HW6.out
        have h2 : w.heap.size ≤ w4.heap.size := HSZ.out
        exact h1.trans ((haw.mono (m := w.heap.size) (G := fun _ => False) h1.size (fun j hj hF => by have := hF.1; omega)).below fun _ _ h => h)
      clear HRC HVC HRO HXO HSB HGG HGH HW6 haw hkp hi
      have htr := treesN_any _ hv (by omega) wo hcapc hok hrc8 hvc8 5 (by decide) HIM.out HTR.out
      unfold gramV at htr
      have k0 := blk_cell gh8 (i := 0) rfl
      have k1 := blk_cell gh8 (i := 1) rfl
      have k2 := blk_cell gh8 (i := 2) rfl
      have k3 := blk_cell gh8 (i := 3) rfl
      go_wp2_with fail
      refine htr.mono ?_
      rintro e9 w9 ⟨Ae, ce, rfl, hce, hse, hb9⟩
      rw [← HMN.out] at hse ⊢
      have gg9 := blk_below hb9 (blk_lt gg8) gg8
      have gh9 := blk_below hb9 (blk_lt gh8) gh8
      have hrc9 := hrc8.below hb9
      have hvc9 := hvc8.below hb9
      have hrO9 := hrO8.below hb9
      have hxO9 := hxO8.below hb9
      have hsb9 := hsb8.below hb9
      have hw9 := hw8.trans (hb9.mono hw8.size)
      clear htr k0 k1 k2 k3 gg8 gh8 hrc8 hvc8 hrO8 hxO8 hsb8 hw8 hb9
      have hme := means_any w9
      go_wp2_with fail
      with_reducible refine hme.mono ?_
      rintro e10 w10 ⟨rfl, hb10⟩
      have heq := equal_int _ _ x x _ _ _ _ _ _ _ (hvc9.below hb10) (hxO9.below hb10)
      have gg10 := blk_below hb10 (blk_lt gg9) gg9
      have gh10 := blk_below hb10 (blk_lt gh9) gh9
      have hrc10 := hrc9.below hb10
      have hrO10 := hrO9.below hb10
      have hsb10 := hsb9.below hb10
      have hse10 := hse.below hb10
      have hw10 := hw9.trans (hb10.mono hw9.size)
      have hee : (err == err) = true := by simp
      clear hme gg9 gh9 hrc9 hvc9 hrO9 hxO9 hsb9 hse hw9 hb10
      go_wp2_with fail
      with_reducible refine heq.mono ?_
      rintro e11 w11 ⟨rfl, hb11⟩
      have gg11 := blk_below hb11 (blk_lt gg10) gg10
      have gh11 := blk_below hb11 (blk_lt gh10) gh10
      have heqr := eqRule_any _ _ g.rules _ _ _ _ _ (hrO10.below hb11) (hrc10.below hb11)
      have hsb11 := hsb10.below hb11
      have hse11 := hse10.below hb11
      have hw11 := hw10.trans (hb11.mono hw10.size)
      have k3 := blk_cell gg11 (i := 3) rfl
      have j3 := blk_cell gh11 (i := 3) rfl
      clear heq hrc10 hrO10 hsb10 hse10 hw10 hb11 gg10 gh10
      go_wp2_with fail
      with_reducible refine heqr.mono ?_
      rintro e12 w12 ⟨rfl, hb12⟩
      have heqt := eqTree_any _ _ ts _ _ _ _ _ ((HMN.out ▸ hsb11).below hb12) ((HMN.out ▸ hse11).below hb12)
      rw [← HMN.out] at heqt
      have hw12 := hw11.trans (hb12.mono hw11.size)
      clear heqr hsb11 hse11 hw11 hb12 k3 j3 gg11 gh11
      go_wp2_with fail
      with_reducible refine heqt.mono ?_
      rintro e13 w13 ⟨rfl, hb13⟩
      go_wp2_with fail
      go_ret
      exact ⟨rfl, hw12.trans (hb13.mono hw12.size)⟩
end Go.Proofs.Ytdbkbkopcnkgcaa
