import Derived.Test.YtdbkbkopcnkgcaaAway
import Derived.Test.YtdbkbkopcnkgcaaSortLay
import Derived.Shelf.SlSortCmp.NoneTotal
import Derived.Test.YtdbkbkopcnkgcaaGramC
open Go Go.RowKit
open Go.Sort (HoldsK flatK grow putRowK putRow mapBlock SWO PermIn SortedIn)
namespace Go.Proofs.Ytdbkbkopcnkgcaa

theorem flatMap_get {α : Type} (enc : α → List Value) (k : Nat) (hk : ∀ x, (enc x).length = k) : ∀ (d : List α) (q r : Nat) (hq : q < d.length), r < k → (d.flatMap enc)[q * k + r]? = (enc d[q])[r]?
  | [], q, r, hq, _ => by simp at hq
  | a :: d, 0, r, _, hr => by
    rw [List.flatMap_cons, Nat.zero_mul, Nat.zero_add, List.getElem?_append_left (by rw [hk]; exact hr)]; rfl
  | a :: d, q + 1, r, hq, hr => by
    rw [List.flatMap_cons, List.getElem?_append_right (by rw [hk, Nat.add_mul, Nat.one_mul]; omega), hk, show (q + 1) * k + r - k = q * k + r by rw [Nat.add_mul, Nat.one_mul]; omega]
    simpa using flatMap_get enc k hk d q r (by simpa using hq) hr

/-- a row of the call's own, as the kit's sort wants it -/
theorem holds_own {α : Type} [Inhabited α] {w : World} {base k g cap : Nat} {e : TypeId} (enc : α → List Value) (hk : ∀ x, (enc x).length = k) (d : List α) (h : w.ownsRow base e k (.slice (some ⟨g, 0, none⟩) d.length cap) d.length (d.flatMap enc)) : HoldsK enc k w g 0 d.toArray := by
  intro t ht
  simp only [Go.Sort.size_flatK, List.size_toArray] at ht
  have hk0 : 0 < k := by
    rcases Nat.eq_zero_or_pos k with h0 | h0
    · subst h0; simp at ht
    · exact h0
  have hq : t / k < d.length := by rw [Nat.div_lt_iff_lt_mul hk0]; exact ht
  have hg : (flatK enc k d.toArray)[t]! = (enc d[t / k])[t % k]! := by
    rw [Go.Sort.get_flatK _ _ _ _ (by simpa using ht)]
    simp [hq]
  have hr : t % k < (enc d[t / k]).length := by rw [hk]; exact Nat.mod_lt _ hk0
  have h1 := flatMap_get enc k hk d (t / k) (t % k) hq (Nat.mod_lt _ hk0)
  rw [Nat.mul_comm, Nat.div_add_mod, List.getElem?_eq_getElem hr] at h1
  have h2 := h.cells (g := g) rfl t _ h1
  rw [add_lit0] at h2
  rw [Nat.zero_add]
  refine ⟨?_, ?_⟩
  · rw [h2, hg]; simp [hr]
  · rcases h.2 with ⟨he, _⟩ | ⟨g', cap', cur, he, _, hgg, _⟩
    · cases he
    · injection he with e1 e2 e3
      injection e1 with e1
      have e4 : g' = g := by have := congrArg Addr.block e1; exact this.symm
      subst e4
      exact blk_free hgg

theorem grow_blk {w : World} {os : Array Obj} {b : Nat} (h : b < w.heap.size) : (grow w os).heap[b]? = w.heap[b]? := by
  simp only [grow]
  rw [Array.getElem?_append_left h]

/-- what a sort leaves: nothing but its row has turned -/
theorem sort_away {α : Type} [Inhabited α] (enc : α → List Value) (k : Nat) (w : World) (blk off m : Nat) (dk : Array α) (os : Array Obj) : Away w.heap.size (fun b => b = blk) w (sortWorldK enc k w blk off m dk os) := by
  have hs : (putRowK enc k (Go.Sort.ahead w m) blk off dk).heap.size = w.heap.size := by rw [Go.Sort.size_putRowK]; rfl
  refine ⟨rfl, rfl, rfl, ?_, fun j hj hne => ?_⟩
  · unfold sortWorldK
    rw [Go.Sort.size_grow, hs]; omega
  · unfold sortWorldK
    rw [grow_blk (by rw [hs]; exact hj)]
    show ((w.heap.modify blk _)[j]? : Option Obj) = _
    rw [Array.getElem?_modify, if_neg (fun e => hne e.symm)]

theorem cmpI_vals (a b : Int) : (cmpI a b = -1 ∧ a < b) ∨ (cmpI a b = 0 ∧ a = b) ∨ (cmpI a b = 1 ∧ b < a) := by
  unfold cmpI
  by_cases h : a < b
  · simp [h]
  · by_cases h2 : b < a
    · simp [h, h2]
    · simp [h, h2]; omega

def cmpInts : List Int → List Int → Int
  | [], [] => 0
  | [], _ :: _ => -1
  | _ :: _, [] => 1
  | a :: x, b :: y => if cmpI a b ≠ 0 then cmpI a b else cmpInts x y

theorem cmpInts_refl : ∀ x, cmpInts x x = 0
  | [] => rfl
  | a :: x => by
    unfold cmpInts
    rcases cmpI_vals a a with ⟨_, h⟩ | ⟨h, _⟩ | ⟨_, h⟩
    · omega
    · rw [if_neg (by simpa using h), cmpInts_refl x]
    · omega
theorem cmpInts_anti : ∀ x y, cmpInts y x = - cmpInts x y
  | [], [] => rfl
  | [], _ :: _ => rfl
  | _ :: _, [] => rfl
  | a :: x, b :: y => by
    have ih := cmpInts_anti x y
    unfold cmpInts
    rcases cmpI_vals a b with ⟨h1, h2⟩ | ⟨h1, h2⟩ | ⟨h1, h2⟩ <;> rcases cmpI_vals b a with ⟨h3, h4⟩ | ⟨h3, h4⟩ | ⟨h3, h4⟩ <;> simp [h1, h3, ih] <;> omega
theorem cmpInts_zero : ∀ x y, cmpInts x y = 0 → x = y
  | [], [], _ => rfl
  | [], _ :: _, h => by simp [cmpInts] at h
  | _ :: _, [], h => by simp [cmpInts] at h
  | a :: x, b :: y, h => by
    unfold cmpInts at h
    rcases cmpI_vals a b with ⟨h1, h2⟩ | ⟨h1, h2⟩ | ⟨h1, h2⟩
    · rw [h1] at h; simp at h
    · rw [if_neg (by simpa using h1)] at h; rw [h2, cmpInts_zero x y h]
    · rw [h1] at h; simp at h
theorem cmpInts_trans : ∀ x y z, cmpInts x y < 0 → cmpInts y z < 0 → cmpInts x z < 0
  | [], [], _, h, _ => by simp [cmpInts] at h
  | [], _ :: _, [], _, h => by simp [cmpInts] at h
  | [], _ :: _, _ :: _, _, _ => by simp [cmpInts]
  | _ :: _, [], _, h, _ => by simp [cmpInts] at h
  | _ :: _, _ :: _, [], _, h => by simp [cmpInts] at h
  | a :: x, b :: y, c :: z, h, h' => by
    have ih := cmpInts_trans x y z
    unfold cmpInts at h h' ⊢
    rcases cmpI_vals a b with ⟨h1, h2⟩ | ⟨h1, h2⟩ | ⟨h1, h2⟩ <;> rcases cmpI_vals b c with ⟨h3, h4⟩ | ⟨h3, h4⟩ | ⟨h3, h4⟩ <;> rcases cmpI_vals a c with ⟨h5, h6⟩ | ⟨h5, h6⟩ | ⟨h5, h6⟩ <;> simp [h1, h3, h5] at h h' ⊢ <;> first | omega | exact ih h h'

set_option maxHeartbeats 400000 in
theorem compareInts_any (F F2 : Nat → Prop) (x y : List Int) (A B : Option Addr) (nx ny cx cy : Nat) (w : World) (hx : IsSl Elt.int F w (.slice A nx cx) x) (hy : IsSl Elt.int F2 w (.slice B ny cy) y) :
    Calls Try.prog 19 #[.slice A nx cx, .slice B ny cy] w fun e w' => e = .returned (.int .i64 (cmpInts x y)) ∧ w = w' := by
  obtain ⟨rfl, hnx⟩ := hx.len
  obtain ⟨rfl, hny⟩ := hy.len
  go_enter Try.func19, Try.ntmps19
  go_wp2
  go_loop [11] (fun i => ∃ k : Nat, k ≤ x.length ∧ k ≤ y.length ∧ i = .int .i64 k ∧ cmpInts x y = cmpInts (x.drop k) (y.drop k)) (fun i => x.length - (intOf i).toNat)
  case atStart => exact ⟨0, by omega, by omega, rfl, rfl⟩
  case round =>
    obtain ⟨k, hk, hk', rfl, hd⟩ := hrel
    have HD := Lib.hid hd
    clear hd
    by_cases hlt : k < x.length
    · obtain ⟨b1, o1, rfl, hF1, hl1, hc1⟩ := hx.oneAt k hlt
      by_cases hlt' : k < y.length
      · obtain ⟨b2, o2, rfl, hF2, hl2, hc3⟩ := hy.oneAt k hlt'
        have hst : cmpInts (x.drop k) (y.drop k) = if cmpI x[k] y[k] ≠ 0 then cmpI x[k] y[k] else cmpInts (x.drop (k+1)) (y.drop (k+1)) := by
          rw [List.drop_eq_getElem_cons hlt, List.drop_eq_getElem_cons hlt']; rfl
        generalize x[k] = a at hc1 hst
        generalize y[k] = b at hc3 hst
        by_cases h0 : cmpI a b = 0
        · rw [if_neg (by simpa using h0)] at hst
          have h0' : (cmpI a b != 0) = false := by simp [h0]
          have HS := Lib.hid hst
          clear hst h0
          go_wp2_with (go_at_call 67; refine (cmp_any _ _ _).mono ?_; rintro e w' ⟨rfl, rfl⟩)
          go_round
          case rel => exact ⟨k + 1, by omega, by omega, by go_num, HD.out.trans HS.out⟩
          case measure => simp [intOf]; omega
        · rw [if_pos (by simpa using h0)] at hst
          have h0' : (cmpI a b != 0) = true := by simp [h0]
          have HS := Lib.hid hst
          clear hst h0
          go_wp2_with (go_at_call 67; refine (cmp_any _ _ _).mono ?_; rintro e w' ⟨rfl, rfl⟩)
          go_ret
          exact ⟨ret_int (by rw [HD.out, HS.out]), rfl⟩
      · have hst : cmpInts (x.drop k) (y.drop k) = 1 := by
          rw [List.drop_eq_getElem_cons hlt, show y.drop k = [] from List.drop_eq_nil_of_le (by omega)]; rfl
        have HS := Lib.hid hst
        clear hst
        go_wp2
        go_ret
        exact ⟨ret_int (by rw [HD.out, HS.out]), rfl⟩
    · have hst : cmpInts (x.drop k) (y.drop k) = if k < y.length then -1 else 0 := by
        rw [List.drop_eq_nil_of_le (by omega)]
        split
        · rename_i h'; rw [List.drop_eq_getElem_cons h']; rfl
        · rw [List.drop_eq_nil_of_le (by omega)]; rfl
      have HS := Lib.hid hst
      clear hst
      by_cases hlt' : x.length < y.length
      · go_wp2
        go_ret
        exact ⟨ret_int (by rw [HD.out, HS.out, if_pos (by omega)]), rfl⟩
      · go_wp2
        go_ret
        exact ⟨ret_int (by rw [HD.out, HS.out, if_neg (by omega)]), rfl⟩
end Go.Proofs.Ytdbkbkopcnkgcaa
