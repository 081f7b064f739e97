import Derived.Test.YtdbkbkopcnkgcaaGreatOwn
import Derived.Test.YtdbkbkopcnkgcaaGreatGramC
import Derived.BigQuiet
import Derived.Deep.QuietTactic
open Go Go.RowKit
namespace Go.Proofs.YtdbkbkopcnkgcaaGreat

set_option maxRecDepth 100000 in
set_option maxHeartbeats 1600000 in
theorem equal_int (F F2 : Nat → Prop) (xs ys : List Int) (A : Option Addr) (n c : Nat) (A2 : Option Addr) (n2 c2 : Nat) (w : World) (hx : IsSl Elt.int F w (.slice A n c) xs) (hy : IsSl Elt.int F2 w (.slice A2 n2 c2) ys) :
    Calls Tryz.prog 52 #[.slice A n c, .slice A2 n2 c2] w fun e w' => e = .returned (.bool (decide (xs = ys))) ∧ Below w.heap.size w w' := by
  obtain ⟨rfl, hn⟩ := hx.len
  obtain ⟨rfl, hn2⟩ := hy.len
  by_cases hl : xs.length = ys.length
  · have hlz : ((xs.length : Int) == (ys.length : Int)) = true := by simp [hl]
    have HL := Lib.hid hl
    go_enter Tryz.func52, Tryz.ntmps52
    rw [hl]
    clear hlz hl
    go_wp2_with fail
    go_loopg [13] ys.length (fun gk i wr => ∃ q : Nat, q ≤ ys.length ∧ gk = ys.length - q ∧ i = .int .i64 q ∧ Below w.heap.size w wr ∧ xs.take q = ys.take q)
    case atStart => exact ⟨0, by omega, by omega, rfl, Below.refl _ _, rfl⟩
    case round =>
      obtain ⟨q, hq, rfl, rfl, hb, ht⟩ := hrel
      by_cases hlt : q < ys.length
      · have hlx : q < xs.length := by have := HL.out; omega
        obtain ⟨b, o, rfl, hF, hbl, hc⟩ := (hx.below hb).oneAt q hlx
        obtain ⟨b2, o2, rfl, hF2, hbl2, hc2⟩ := (hy.below hb).oneAt q hlt
        have hqz : (q : Int) < (ys.length : Int) := by omega
        have h1 : xs.take (q + 1) = xs.take q ++ [xs[q]] := by rw [List.take_add_one, List.getElem?_eq_getElem hlx]; rfl
        have h2 : ys.take (q + 1) = ys.take q ++ [ys[q]] := by rw [List.take_add_one, List.getElem?_eq_getElem hlt]; rfl
        have hne : xs[q] ≠ ys[q] → xs ≠ ys := fun h e => h (by subst e; rfl)
        have H1 := Lib.hid h1
        have H2 := Lib.hid h2
        clear h1 h2
        generalize xs[q] = a at hc H1 hne
        generalize ys[q] = b' at hc2 H2 hne
        by_cases hab : a = b'
        · have habz : (a == b') = true := by simp [hab]
          have HAB := Lib.hid hab
          clear hab hne
          go_wp2_with fail
          go_quiet (fail)
          go_wp2_with fail
          go_roundg (ys.length - (q + 1))
          case measure => omega
          case rel => exact ⟨q + 1, by omega, rfl, by go_num, below_drewN hb _, by rw [H1.out, H2.out, ht, HAB.out]⟩
        · have habz : (a == b') = false := by simp [hab]
          have hd : decide (xs = ys) = false := by simpa using hne hab
          have HD := Lib.hid hd
          clear hab hd hne
          go_wp2_with fail
          go_quiet (fail)
          go_wp2_with fail
          go_ret
          exact ⟨ret_bool HD.out.symm, below_drewN hb _⟩
      · obtain rfl : q = ys.length := by omega
        have hd : decide (xs = ys) = true := by
          rw [List.take_length, ← HL.out, List.take_length] at ht
          simpa using ht
        have HD := Lib.hid hd
        clear hd
        go_wp2_with fail
        go_ret
        exact ⟨ret_bool HD.out.symm, hb⟩
  · have hlz : ((xs.length : Int) == (ys.length : Int)) = false := by rw [beq_eq_false_iff_ne]; omega
    have hd : decide (xs = ys) = false := by
      have : xs ≠ ys := fun e => hl (by rw [e])
      simpa using this
    have HD := Lib.hid hd
    clear hd hl
    go_enter Tryz.func52, Tryz.ntmps52
    go_wp2_with fail
    go_ret
    exact ⟨ret_bool HD.out.symm, Below.refl _ _⟩

end Go.Proofs.YtdbkbkopcnkgcaaGreat
