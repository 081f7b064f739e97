import Derived.Test.YtdbkbkopcnkgcaaProg
import Derived.Test.YtdbkbkopcnkgcaaData
import Derived.WalkSpells
import Derived.WalkLawsBesides
import Derived.Deep.QuietTactic
import Derived.BigQuiet
import Derived.Outline
open Go Go.RowKit
namespace Go.Proofs.Ytdbkbkopcnkgcaa

def ordS (a b : Sym) : Int := if a.t && !b.t then -1 else if !a.t && b.t then 1 else if a.n < b.n then -1 else if b.n < a.n then 1 else 0
def cmpI (x y : Int) : Int := if x < y then -1 else if y < x then 1 else 0

theorem isNaN_any (x : Int) (w : World) : Calls Try.prog 104 #[.int .i64 x] w fun e w' => e = .returned (.bool false) ∧ w = w' := by
  go_enter Try.func104, Try.ntmps104
  go_wp2
  go_ret
  exact ⟨rfl, rfl⟩

theorem cmp_any (x y : Int) (w : World) : Calls Try.prog 67 #[.int .i64 x, .int .i64 y] w fun e w' => e = .returned (.int .i64 (cmpI x y)) ∧ w = w' := by
  unfold cmpI
  rcases Int.lt_trichotomy x y with h | h | h
  · go_enter Try.func67, Try.ntmps67
    go_wp2_with (go_at_call 104; refine (isNaN_any _ _).mono ?_; rintro e w' ⟨rfl, rfl⟩)
    go_ret
    exact ⟨by simp, rfl⟩
  · subst h
    go_enter Try.func67, Try.ntmps67
    go_wp2_with (go_at_call 104; refine (isNaN_any _ _).mono ?_; rintro e w' ⟨rfl, rfl⟩)
    go_ret
    exact ⟨by simp, rfl⟩
  · have h' : ¬ x < y := by omega
    go_enter Try.func67, Try.ntmps67
    go_wp2_with (go_at_call 104; refine (isNaN_any _ _).mono ?_; rintro e w' ⟨rfl, rfl⟩)
    go_ret
    exact ⟨by simp, rfl⟩

theorem order_any (a b : Sym) (w : World) :
    Calls Try.prog 135 #[symV a, symV b] w fun e w' => e = .returned (.int .i64 (ordS a b)) ∧ Below w.heap.size w w' := by
  obtain ⟨at_, an⟩ := a
  obtain ⟨bt, bn⟩ := b
  unfold symV
  cases at_ <;> cases bt
  all_goals
    go_enter Try.func135, Try.ntmps135
    go_wp2_with (go_at_call 67; refine (cmp_any _ _ _).mono ?_; rintro e w' ⟨rfl, rfl⟩)
    go_ret
    exact ⟨by simp [ordS, cmpI], by exact ((Below.refl _ _).alloc (Nat.le_refl _) _).alloc (by simp) _⟩

def cmpSyms : List Sym → List Sym → Int
  | [], [] => 0
  | [], _ :: _ => -1
  | _ :: _, [] => 1
  | a :: x, b :: y => if ordS a b ≠ 0 then ordS a b else cmpSyms x y

theorem cmpSyms_drop (x y : List Sym) (k : Nat) (h : k < x.length) (h' : k < y.length) : cmpSyms (x.drop k) (y.drop k) = if ordS x[k] y[k] ≠ 0 then ordS x[k] y[k] else cmpSyms (x.drop (k+1)) (y.drop (k+1)) := by
  rw [List.drop_eq_getElem_cons h, List.drop_eq_getElem_cons h']; rfl
theorem cmpSyms_long (x y : List Sym) (k : Nat) (h : k < x.length) (h' : y.length ≤ k) : cmpSyms (x.drop k) (y.drop k) = 1 := by
  rw [List.drop_eq_getElem_cons h, List.drop_eq_nil_of_le h']; rfl
theorem cmpSyms_end (x y : List Sym) (k : Nat) (h : x.length ≤ k) (h0 : k ≤ y.length) : cmpSyms (x.drop k) (y.drop k) = if k < y.length then -1 else 0 := by
  rw [List.drop_eq_nil_of_le h]
  split
  · rename_i h'; rw [List.drop_eq_getElem_cons h']; rfl
  · rw [List.drop_eq_nil_of_le (by omega)]; rfl

set_option maxHeartbeats 400000 in
theorem cmpSyms_any (F : Nat → Prop) (x y : List Sym) (A B : Option Addr) (nx ny cx cy : Nat) (w : World) (hx : IsSl Elt.sym F w (.slice A nx cx) x) (hy : IsSl Elt.sym F w (.slice B ny cy) y) :
    Calls Try.prog 134 #[.slice A nx cx, .slice B ny cy, .func (.func 135) #[] #[]] w fun e w' => e = .returned (.int .i64 (cmpSyms x y)) ∧ Below w.heap.size w w' := by
  obtain ⟨rfl, hnx⟩ := hx.len
  obtain ⟨rfl, hny⟩ := hy.len
  go_enter Try.func134, Try.ntmps134
  go_wp2
  go_loopw [13] (fun i wr => ∃ k : Nat, k ≤ x.length ∧ k ≤ y.length ∧ i = .int .i64 k ∧ cmpSyms x y = cmpSyms (x.drop k) (y.drop k) ∧ Below w.heap.size w wr) (fun i _ => x.length - (intOf i).toNat)
  case atStart => exact ⟨0, by omega, by omega, rfl, rfl, Below.refl _ _⟩
  case round =>
    obtain ⟨k, hk, hk', rfl, hd, hb⟩ := hrel
    have HD := Lib.hid hd
    clear hd
    by_cases hlt : k < x.length
    · obtain ⟨b1, o1, rfl, hF1, hl1, hc1, hc2⟩ := (hx.below hb).symAt k hlt
      by_cases hlt' : k < y.length
      · obtain ⟨b2, o2, rfl, hF2, hl2, hc3, hc4⟩ := (hy.below hb).symAt k hlt'
        go_wp2_with fail
        refine (order_any x[k] y[k] _).mono ?_
        rintro e w' ⟨rfl, hb2⟩
        have hst := cmpSyms_drop x y k hlt hlt'
        by_cases h0 : ordS x[k] y[k] = 0
        · rw [if_neg (by simpa using h0)] at hst
          have h0' : (ordS x[k] y[k] != 0) = false := by simp [h0]
          have HS := Lib.hid hst
          clear hst h0
          go_wp2
          go_roundw
          case rel => exact ⟨k + 1, by omega, by omega, by go_num, HD.out.trans HS.out, (((hb.alloc hb.size _).alloc (by simp; have := hb.size; omega) _).trans (hb2.mono (by simp; have := hb.size; omega)))⟩
          case measure => simp [intOf]; omega
        · rw [if_pos (by simpa using h0)] at hst
          have h0' : (ordS x[k] y[k] != 0) = true := by simp [h0]
          have HS := Lib.hid hst
          clear hst h0
          go_wp2
          go_ret
          exact ⟨ret_int (by rw [HD.out, HS.out]), (((hb.alloc hb.size _).alloc (by simp; have := hb.size; omega) _).trans (hb2.mono (by simp; have := hb.size; omega)))⟩
      · have hst := cmpSyms_long x y k hlt (by omega)
        have HS := Lib.hid hst
        clear hst
        go_wp2
        go_ret
        exact ⟨ret_int (by rw [HD.out, HS.out]), hb.alloc hb.size _⟩
    · have hst := cmpSyms_end x y k (by omega) hk'
      have HS := Lib.hid hst
      clear hst
      by_cases hlt' : x.length < y.length
      · go_wp2
        go_ret
        exact ⟨ret_int (by rw [HD.out, HS.out, if_pos (by omega)]), hb⟩
      · go_wp2
        go_ret
        exact ⟨ret_int (by rw [HD.out, HS.out, if_neg (by omega)]), hb⟩
end Go.Proofs.Ytdbkbkopcnkgcaa
