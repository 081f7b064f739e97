import Derived.Test.YtcndbohiiodndaaGramC
import Derived.Test.YtcndbohiiodndaaWorld
import Derived.Test.YtcndbohiiodndaaOwn
import Derived.BigQuiet
import Derived.Deep.QuietTactic
open Go Go.RowKit
namespace Go.Proofs.Ytcndbohiiodndaa

set_option maxRecDepth 100000 in
theorem index_int (F : Nat → Prop) (xs : List Int) (v : Int) (A : Option Addr) (n c : Nat) (w : World) (hx : IsSl Elt.int F w (.slice A n c) xs) :
    Calls Try.prog 91 #[.slice A n c, .int .i64 v] w fun e w' => (∃ r : Int, e = .returned (.int .i64 r) ∧ (0 ≤ r ↔ v ∈ xs)) ∧ w = w' := by
  obtain ⟨rfl, hn⟩ := hx.len
  go_enter Try.func91, Try.ntmps91
  go_wp2_with fail
  go_loopg [8] xs.length (fun gk i wr => ∃ k : Nat, k ≤ xs.length ∧ gk = xs.length - k ∧ i = .int .i64 k ∧ w = wr ∧ Hid (∀ j (h : j < xs.length), j < k → xs[j] ≠ v))
  case atStart => exact ⟨0, by omega, by omega, rfl, rfl, Lib.hid fun j _ hj => by omega⟩
  case round =>
    obtain ⟨k, hk, rfl, rfl, rfl, hH⟩ := hrel
    by_cases hlt : k < xs.length
    · obtain ⟨b, o, rfl, _, hl, hc⟩ := hx.oneAt k hlt
      have hkz : (k : Int) < (xs.length : Int) := by omega
      by_cases he : xs[k] = v
      · have hm : v ∈ xs := by rw [← he]; exact List.getElem_mem hlt
        rw [he] at hc
        have hvv : (v == v) = true := by simp
        clear he
        go_wp2_with fail
        go_ret
        exact ⟨⟨_, rfl, by simp [hm]⟩, rfl⟩
      · have hne : (v == xs[k]) = false := by simp; exact fun e => he e.symm
        have hH2 : Hid (∀ j (h : j < xs.length), j < k + 1 → xs[j] ≠ v) := Lib.hid fun j h hj => by
          by_cases e : j = k
          · subst e; exact he
          · exact hH.out j h (by omega)
        clear he
        generalize xs[k] = u at hc hne
        go_wp2_with fail
        go_roundg (xs.length - (k + 1))
        case measure => omega
        case rel => exact ⟨k + 1, by omega, rfl, by go_num, rfl, hH2⟩
    · obtain rfl : k = xs.length := by omega
      have hm : v ∉ xs := fun h => by
        obtain ⟨j, hj, e⟩ := List.getElem_of_mem h
        exact hH.out j hj hj e
      go_wp2_with fail
      go_ret
      exact ⟨⟨_, rfl, by simp [hm]⟩, rfl⟩

theorem contains_int (F : Nat → Prop) (xs : List Int) (v : Int) (A : Option Addr) (n c : Nat) (w : World) (hx : IsSl Elt.int F w (.slice A n c) xs) :
    Calls Try.prog 41 #[.slice A n c, .int .i64 v] w fun e w' => e = .returned (.bool (decide (v ∈ xs))) ∧ w = w' := by
  go_enter Try.func41, Try.ntmps41
  go_wp2_with fail
  refine (index_int F xs v A n c w hx).mono ?_
  rintro e w' ⟨⟨r, rfl, hr⟩, rfl⟩
  by_cases hm : v ∈ xs
  · have h0 : 0 ≤ r := hr.2 hm
    have HM := Lib.hid hm
    clear hm hr
    go_wp2_with fail
    go_ret
    exact ⟨ret_bool (by simp [HM.out]), rfl⟩
  · have h0 : ¬ 0 ≤ r := fun h => hm (hr.1 h)
    have HM := Lib.hid hm
    clear hm hr
    go_wp2_with fail
    go_ret
    exact ⟨ret_bool (by simp [HM.out]; omega), rfl⟩
end Go.Proofs.Ytcndbohiiodndaa

open Go Go.RowKit
namespace Go.Proofs.Ytcndbohiiodndaa

set_option maxRecDepth 100000 in
set_option maxHeartbeats 1600000 in
theorem equal_int (F F2 : Nat → Prop) (xs ys : List Int) (A : Option Addr) (n c : Nat) (A2 : Option Addr) (n2 c2 : Nat) (w : World) (hx : IsSl Elt.int F w (.slice A n c) xs) (hy : IsSl Elt.int F2 w (.slice A2 n2 c2) ys) :
    Calls Try.prog 40 #[.slice A n c, .slice A2 n2 c2] w fun e w' => e = .returned (.bool (decide (xs = ys))) ∧ Below w.heap.size w w' := by
  obtain ⟨rfl, hn⟩ := hx.len
  obtain ⟨rfl, hn2⟩ := hy.len
  by_cases hl : xs.length = ys.length
  · have hlz : ((xs.length : Int) == (ys.length : Int)) = true := by simp [hl]
    have HL := Lib.hid hl
    go_enter Try.func40, Try.ntmps40
    rw [hl]
    clear hlz hl
    go_wp2_with fail
    go_loopg [13] ys.length (fun gk i wr => ∃ q : Nat, q ≤ ys.length ∧ gk = ys.length - q ∧ i = .int .i64 q ∧ Below w.heap.size w wr ∧ xs.take q = ys.take q)
    case atStart => exact ⟨0, by omega, by omega, rfl, Below.refl _ _, rfl⟩
    case round =>
      obtain ⟨q, hq, rfl, rfl, hb, ht⟩ := hrel
      by_cases hlt : q < ys.length
      · have hlx : q < xs.length := by have := HL.out; omega
        obtain ⟨b, o, rfl, hF, hbl, hc⟩ := (hx.below hb).oneAt q hlx
        obtain ⟨b2, o2, rfl, hF2, hbl2, hc2⟩ := (hy.below hb).oneAt q hlt
        have hqz : (q : Int) < (ys.length : Int) := by omega
        have h1 : xs.take (q + 1) = xs.take q ++ [xs[q]] := by rw [List.take_add_one, List.getElem?_eq_getElem hlx]; rfl
        have h2 : ys.take (q + 1) = ys.take q ++ [ys[q]] := by rw [List.take_add_one, List.getElem?_eq_getElem hlt]; rfl
        have hne : xs[q] ≠ ys[q] → xs ≠ ys := fun h e => h (by subst e; rfl)
        have H1 := Lib.hid h1
        have H2 := Lib.hid h2
        clear h1 h2
        generalize xs[q] = a at hc H1 hne
        generalize ys[q] = b' at hc2 H2 hne
        by_cases hab : a = b'
        · have habz : (a == b') = true := by simp [hab]
          have HAB := Lib.hid hab
          clear hab hne
          go_wp2_with fail
          go_quiet (fail)
          go_wp2_with fail
          go_roundg (ys.length - (q + 1))
          case measure => omega
          case rel => exact ⟨q + 1, by omega, rfl, by go_num, below_drewN hb _, by rw [H1.out, H2.out, ht, HAB.out]⟩
        · have habz : (a == b') = false := by simp [hab]
          have hd : decide (xs = ys) = false := by simpa using hne hab
          have HD := Lib.hid hd
          clear hab hd hne
          go_wp2_with fail
          go_quiet (fail)
          go_wp2_with fail
          go_ret
          exact ⟨ret_bool HD.out.symm, below_drewN hb _⟩
      · obtain rfl : q = ys.length := by omega
        have hd : decide (xs = ys) = true := by
          rw [List.take_length, ← HL.out, List.take_length] at ht
          simpa using ht
        have HD := Lib.hid hd
        clear hd
        go_wp2_with fail
        go_ret
        exact ⟨ret_bool HD.out.symm, hb⟩
  · have hlz : ((xs.length : Int) == (ys.length : Int)) = false := by rw [beq_eq_false_iff_ne]; omega
    have hd : decide (xs = ys) = false := by
      have : xs ≠ ys := fun e => hl (by rw [e])
      simpa using this
    have HD := Lib.hid hd
    clear hd hl
    go_enter Try.func40, Try.ntmps40
    go_wp2_with fail
    go_ret
    exact ⟨ret_bool HD.out.symm, Below.refl _ _⟩

set_option maxRecDepth 100000 in
set_option maxHeartbeats 1600000 in
theorem equal_bool (F F2 : Nat → Prop) (xs ys : List Bool) (A : Option Addr) (n c : Nat) (A2 : Option Addr) (n2 c2 : Nat) (w : World) (hx : IsSl Elt.bool F w (.slice A n c) xs) (hy : IsSl Elt.bool F2 w (.slice A2 n2 c2) ys) :
    Calls Try.prog 62 #[.slice A n c, .slice A2 n2 c2] w fun e w' => e = .returned (.bool (decide (xs = ys))) ∧ Below w.heap.size w w' := by
  obtain ⟨rfl, hn⟩ := hx.len
  obtain ⟨rfl, hn2⟩ := hy.len
  by_cases hl : xs.length = ys.length
  · have hlz : ((xs.length : Int) == (ys.length : Int)) = true := by simp [hl]
    have HL := Lib.hid hl
    go_enter Try.func62, Try.ntmps62
    rw [hl]
    clear hlz hl
    go_wp2_with fail
    go_loopg [13] ys.length (fun gk i wr => ∃ q : Nat, q ≤ ys.length ∧ gk = ys.length - q ∧ i = .int .i64 q ∧ Below w.heap.size w wr ∧ xs.take q = ys.take q)
    case atStart => exact ⟨0, by omega, by omega, rfl, Below.refl _ _, rfl⟩
    case round =>
      obtain ⟨q, hq, rfl, rfl, hb, ht⟩ := hrel
      by_cases hlt : q < ys.length
      · have hlx : q < xs.length := by have := HL.out; omega
        obtain ⟨b, o, rfl, hF, hbl, hc⟩ := (hx.below hb).oneAt q hlx
        obtain ⟨b2, o2, rfl, hF2, hbl2, hc2⟩ := (hy.below hb).oneAt q hlt
        have hqz : (q : Int) < (ys.length : Int) := by omega
        have h1 : xs.take (q + 1) = xs.take q ++ [xs[q]] := by rw [List.take_add_one, List.getElem?_eq_getElem hlx]; rfl
        have h2 : ys.take (q + 1) = ys.take q ++ [ys[q]] := by rw [List.take_add_one, List.getElem?_eq_getElem hlt]; rfl
        have hne : xs[q] ≠ ys[q] → xs ≠ ys := fun h e => h (by subst e; rfl)
        have H1 := Lib.hid h1
        have H2 := Lib.hid h2
        clear h1 h2
        generalize xs[q] = a at hc H1 hne
        generalize ys[q] = b' at hc2 H2 hne
        by_cases hab : a = b'
        · have habz : (a == b') = true := by simp [hab]
          have HAB := Lib.hid hab
          clear hab hne
          go_wp2_with fail
          go_quiet (fail)
          go_wp2_with fail
          go_roundg (ys.length - (q + 1))
          case measure => omega
          case rel => exact ⟨q + 1, by omega, rfl, by go_num, below_drewN hb _, by rw [H1.out, H2.out, ht, HAB.out]⟩
        · have habz : (a == b') = false := by simp [hab]
          have hd : decide (xs = ys) = false := by simpa using hne hab
          have HD := Lib.hid hd
          clear hab hd hne
          go_wp2_with fail
          go_quiet (fail)
          go_wp2_with fail
          go_ret
          exact ⟨ret_bool HD.out.symm, below_drewN hb _⟩
      · obtain rfl : q = ys.length := by omega
        have hd : decide (xs = ys) = true := by
          rw [List.take_length, ← HL.out, List.take_length] at ht
          simpa using ht
        have HD := Lib.hid hd
        clear hd
        go_wp2_with fail
        go_ret
        exact ⟨ret_bool HD.out.symm, hb⟩
  · have hlz : ((xs.length : Int) == (ys.length : Int)) = false := by rw [beq_eq_false_iff_ne]; omega
    have hd : decide (xs = ys) = false := by
      have : xs ≠ ys := fun e => hl (by rw [e])
      simpa using this
    have HD := Lib.hid hd
    clear hd hl
    go_enter Try.func62, Try.ntmps62
    go_wp2_with fail
    go_ret
    exact ⟨ret_bool HD.out.symm, Below.refl _ _⟩

end Go.Proofs.Ytcndbohiiodndaa
