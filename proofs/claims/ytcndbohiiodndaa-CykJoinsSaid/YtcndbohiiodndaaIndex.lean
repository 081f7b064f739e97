import Derived.Test.YtcndbohiiodndaaGramC
import Derived.Test.YtcndbohiiodndaaWorld
open Go Go.RowKit
namespace Go.Proofs.Ytcndbohiiodndaa

set_option maxRecDepth 100000 in
theorem index_int (F : Nat → Prop) (xs : List Int) (v : Int) (A : Option Addr) (n c : Nat) (w : World) (hx : IsSl Elt.int F w (.slice A n c) xs) :
    Calls Try.prog 91 #[.slice A n c, .int .i64 v] w fun e w' => (∃ r : Int, e = .returned (.int .i64 r) ∧ (0 ≤ r ↔ v ∈ xs)) ∧ w = w' := by
  obtain ⟨rfl, hn⟩ := hx.len
  go_enter Try.func91, Try.ntmps91
  go_wp2_with fail
  go_loopg [8] xs.length (fun gk i wr => ∃ k : Nat, k ≤ xs.length ∧ gk = xs.length - k ∧ i = .int .i64 k ∧ w = wr ∧ Hid (∀ j (h : j < xs.length), j < k → xs[j] ≠ v))
  case atStart => exact ⟨0, by omega, by omega, rfl, rfl, Lib.hid fun j _ hj => by omega⟩
  case round =>
    obtain ⟨k, hk, rfl, rfl, rfl, hH⟩ := hrel
    by_cases hlt : k < xs.length
    · obtain ⟨b, o, rfl, _, hl, hc⟩ := hx.oneAt k hlt
      have hkz : (k : Int) < (xs.length : Int) := by omega
      by_cases he : xs[k] = v
      · have hm : v ∈ xs := by rw [← he]; exact List.getElem_mem hlt
        rw [he] at hc
        have hvv : (v == v) = true := by simp
        clear he
        go_wp2_with fail
        go_ret
        exact ⟨⟨_, rfl, by simp [hm]⟩, rfl⟩
      · have hne : (v == xs[k]) = false := by simp; exact fun e => he e.symm
        have hH2 : Hid (∀ j (h : j < xs.length), j < k + 1 → xs[j] ≠ v) := Lib.hid fun j h hj => by
          by_cases e : j = k
          · subst e; exact he
          · exact hH.out j h (by omega)
        clear he
        generalize xs[k] = u at hc hne
        go_wp2_with fail
        go_roundg (xs.length - (k + 1))
        case measure => omega
        case rel => exact ⟨k + 1, by omega, rfl, by go_num, rfl, hH2⟩
    · obtain rfl : k = xs.length := by omega
      have hm : v ∉ xs := fun h => by
        obtain ⟨j, hj, e⟩ := List.getElem_of_mem h
        exact hH.out j hj hj e
      go_wp2_with fail
      go_ret
      exact ⟨⟨_, rfl, by simp [hm]⟩, rfl⟩

theorem contains_int (F : Nat → Prop) (xs : List Int) (v : Int) (A : Option Addr) (n c : Nat) (w : World) (hx : IsSl Elt.int F w (.slice A n c) xs) :
    Calls Try.prog 41 #[.slice A n c, .int .i64 v] w fun e w' => e = .returned (.bool (decide (v ∈ xs))) ∧ w = w' := by
  go_enter Try.func41, Try.ntmps41
  go_wp2_with fail
  refine (index_int F xs v A n c w hx).mono ?_
  rintro e w' ⟨⟨r, rfl, hr⟩, rfl⟩
  by_cases hm : v ∈ xs
  · have h0 : 0 ≤ r := hr.2 hm
    have HM := Lib.hid hm
    clear hm hr
    go_wp2_with fail
    go_ret
    exact ⟨ret_bool (by simp [HM.out]), rfl⟩
  · have h0 : ¬ 0 ≤ r := fun h => hm (hr.1 h)
    have HM := Lib.hid hm
    clear hm hr
    go_wp2_with fail
    go_ret
    exact ⟨ret_bool (by simp [HM.out]; omega), rfl⟩
end Go.Proofs.Ytcndbohiiodndaa
