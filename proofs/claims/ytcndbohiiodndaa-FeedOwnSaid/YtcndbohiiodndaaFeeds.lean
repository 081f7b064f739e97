import Derived.Test.YtcndbohiiodndaaChain
import Derived.Test.YtcndbohiiodndaaFeedK
import Derived.Test.YtcndbohiiodndaaFeedL
import Derived.Test.YtcndbohiiodndaaEqual
open Go Go.RowKit
namespace Go.Proofs.Ytcndbohiiodndaa

section
variable {D : Nat → Prop} {w : World} {bf lim : Nat} {g : Gram} {gd : List Bool} {x : List Int} {S S' : Nat → Item → Prop} {A : Option Addr} {cr : Nat} {B : Option Addr} {cg : Nat} {C : Option Addr} {cw : Nat} {E : Option Addr} {cs : Nat} {rs : List Nat}

theorem FeedAt.congr (h : FeedAt D w bf lim g gd x S A cr B cg C cw E cs rs) (hS : ∀ k z, k ≤ x.length → (S k z ↔ S' k z)) : FeedAt D w bf lim g gd x S' A cr B cg C cw E cs rs := by
  have hl := h.len
  refine ⟨h.blk, h.lt, h.le, h.rules, h.good, h.gdlen, h.word, h.wordD, h.sets, h.setsD, h.len, h.dist, fun k hk => ⟨?_, (h.maps k hk).2⟩, fun k y hk hy => h.ok k y hk ((hS k y hk).2 hy)⟩
  obtain ⟨l, h1, h2, h3⟩ := (h.maps k hk).1
  exact ⟨l, h1, h2, fun z => (h3 z).trans (hS k z (by omega))⟩
end

/-- a feed in memory that has read x -/
def IsFeed (D : Nat → Prop) (w : World) (bf lim : Nat) (g : Gram) (gd : List Bool) (x : List Int) : Prop :=
  Good g gd ∧ ∃ A cr B cg C cw E cs rs, g.rules.length ≤ cr ∧ FeedAt D w bf lim g gd x (EI g gd x) A cr B cg C cw E cs rs

theorem IsFeed.below {D : Nat → Prop} {w w' : World} {bf lim : Nat} {g : Gram} {gd : List Bool} {x : List Int} (h : IsFeed D w bf lim g gd x) (hb : Below w.heap.size w w') : IsFeed D w' bf lim g gd x := by
  obtain ⟨hg, A, cr, B, cg, C, cw, E, cs, rs, hcr, h⟩ := h
  exact ⟨hg, A, cr, B, cg, C, cw, E, cs, rs, hcr, h.below hb⟩
theorem IsFeed.lt {D : Nat → Prop} {w : World} {bf lim : Nat} {g : Gram} {gd : List Bool} {x : List Int} (h : IsFeed D w bf lim g gd x) : bf < w.heap.size := by
  obtain ⟨hg, A, cr, B, cg, C, cw, E, cs, rs, hcr, h⟩ := h
  exact blk_lt h.blk

theorem new_feed (F : Nat → Prop) (g : Gram) (A0 : Option Addr) (n c : Nat) (w : World) (hr : IsSl Elt.rule F w (.slice A0 n c) g.rules) (hv : Valid g) (hnc : n ≤ c) :
    Calls Try.prog 18 #[gramV g (.slice A0 n c)] w fun e w' => ∃ bf lim gd, e = .returned (.tuple #[.pointer (some ⟨bf, 0, none⟩), .int .i64 0]) ∧ Below w.heap.size w w' ∧ w.heap.size ≤ bf ∧ w.heap.size ≤ lim ∧ IsFeed (fun b => lim ≤ b ∧ b < w'.heap.size) w' bf lim g gd [] := by
  refine (new_any F g A0 n c w hr hv hnc).mono ?_
  rintro e w' ⟨bf, lim, gd, A, cr, B, cg, C, cw, E, cs, rs, rfl, hb, hbf, hcr, hg, h, -⟩
  refine ⟨bf, lim, gd, rfl, hb, hbf, by have := h.lt; omega, hg, A, cr, B, cg, C, cw, E, cs, rs, hcr, h.congr fun k z hk => ?_⟩
  obtain rfl : k = 0 := by simpa using hk
  rw [updS_same, ei_first]

/-- what a step of the feed leaves: of the old blocks only its own have turned -/
def Step (D : Nat → Prop) (w w' : World) (bf lim : Nat) : Prop := Away w.heap.size (fun b => b = bf ∨ (lim ≤ b ∧ D b)) w w'

theorem put_feed {D : Nat → Prop} {bf lim : Nat} {g : Gram} {gd : List Bool} {x : List Int} (t : Nat) (w : World) (h : IsFeed D w bf lim g gd x) (hv : Valid g) (hx : x.length < 12) (ht : (t : Int) < g.terms) :
    Calls Try.prog 22 #[.pointer (some ⟨bf, 0, none⟩), .int .i64 t] w fun e w' => (¬ NextT g (EI g gd x x.length) t ∧ e = .returned (.int .i64 10) ∧ Below w.heap.size w w') ∨ (NextT g (EI g gd x x.length) t ∧ e = .returned (.int .i64 0) ∧ Step D w w' bf lim ∧ IsFeed (fun b => D b ∨ w.heap.size ≤ b) w' bf lim g gd (x ++ [(t : Int)])) := by
  obtain ⟨hg, A, cr, B, cg, C, cw, E, cs, rs, hcr, h⟩ := h
  refine (put_any t w h hv hx ht).mono ?_
  rintro e w' (h1 | ⟨h1, h2, h3, C', cw', E', cs', rs', h4⟩)
  · exact .inl h1
  · refine .inr ⟨h1, h2, h3, hg, A, cr, B, cg, C', cw', E', cs', rs', hcr, h4.congr fun k z hk => ?_⟩
    by_cases e : k = x.length + 1
    · subst e
      rw [updS_same]
      exact (ei_next _ z).symm
    · rw [updS_other _ _ _ e]
      exact (ei_snoc _ (by simp at hk; omega) z).symm

theorem next_feed {D : Nat → Prop} {bf lim : Nat} {g : Gram} {gd : List Bool} {x : List Int} (w : World) (h : IsFeed D w bf lim g gd x) (hv : Valid g) (hx : x.length ≤ 12) :
    Calls Try.prog 21 #[.pointer (some ⟨bf, 0, none⟩)] w fun e w' => ∃ (b : Nat) (o : List Bool), e = .returned (.slice (some ⟨b, 0, none⟩) o.length o.length) ∧ Outs g (EI g gd x x.length) o ∧ Below w.heap.size w w' ∧ w.heap.size ≤ b ∧ w'.heap[b]? = some (.cells (o.map Value.bool).toArray 4 (0, 0)) := by
  obtain ⟨hg, A, cr, B, cg, C, cw, E, cs, rs, hcr, h⟩ := h
  exact next_any w h hv hx

theorem back_feed {D : Nat → Prop} {bf lim : Nat} {g : Gram} {gd : List Bool} {x : List Int} (n m : Nat) (w : World) (h : IsFeed D w bf lim g gd x) (hx : x.length ≤ 12) (hn : n + m = x.length) :
    Calls Try.prog 60 #[.pointer (some ⟨bf, 0, none⟩), .int .i64 n] w fun e w' => e = .returned (.int .i64 0) ∧ Away w.heap.size (fun b => b = bf) w w' ∧ IsFeed D w' bf lim g gd (x.take m) := by
  obtain ⟨hg, A, cr, B, cg, C, cw, E, cs, rs, hcr, h⟩ := h
  refine (back_any n m w h hx hn).mono ?_
  rintro e w' ⟨h1, h2, h3⟩
  refine ⟨h1, h2, hg, A, cr, B, cg, C, cw, E, cs, _, hcr, h3.congr fun k z hk => ?_⟩
  have hm : (x.take m).length = m := by rw [List.length_take]; omega
  rw [hm] at hk
  exact ⟨fun h => ei_prefix (n := m) (fun j hj => by rw [List.getElem?_take, if_pos hj]) h hk, fun h => ei_prefix (n := m) (fun j hj => by rw [List.getElem?_take, if_pos hj]) h hk⟩

theorem word_feed {D : Nat → Prop} {bf lim : Nat} {g : Gram} {gd : List Bool} {x : List Int} (w : World) (h : IsFeed D w bf lim g gd x) (hx : x.length ≤ 12) :
    Calls Try.prog 61 #[.pointer (some ⟨bf, 0, none⟩)] w fun e w' => ∃ (C' : Option Addr) (c' : Nat), e = .returned (.slice C' x.length c') ∧ Below w.heap.size w w' ∧ IsSl Elt.int (fun b => w.heap.size ≤ b) w' (.slice C' x.length c') x := by
  obtain ⟨hg, A, cr, B, cg, C, cw, E, cs, rs, hcr, h⟩ := h
  exact wordOf_any w h hx

theorem outs3 {T : Item → Prop} {o : List Bool} (h : Outs chainG T o) (a b c : Bool) (ha : NextT chainG T 0 ↔ a = true) (hb : NextT chainG T 1 ↔ b = true) (hc : NextE chainG T ↔ c = true) : o = [a, b, c] := by
  have hl := h.len
  have h0 := (h.term 0 (by decide)).trans ha
  have h1 := (h.term 1 (by decide)).trans hb
  have h2 := h.fin.trans hc
  simp only [chainG] at hl h2
  match o, hl with
  | [p, q, r], _ =>
    simp at h0 h1 h2
    have e0 : p = a := by cases p <;> cases a <;> simp_all
    have e1 : q = b := by cases q <;> cases b <;> simp_all
    have e2 : r = c := by cases r <;> cases c <;> simp_all
    rw [e0, e1, e2]
theorem nextT_prefix {gd : List Bool} {x y : List Int} {k : Nat} {t : Int} (hxy : ∀ j, j < k → y[j]? = x[j]?) (h : NextT chainG (EI chainG gd y k) t) : NextT chainG (EI chainG gd x k) t := by
  obtain ⟨m, e, h', r, k1, k2⟩ := h
  exact ⟨m, e, h', r, ei_prefix (n := k) hxy k1 (Nat.le_refl _), k2⟩

set_option maxRecDepth 100000 in
set_option maxHeartbeats 1600000 in
theorem feeds_any (w : World) : Calls Try.prog 19 #[] w fun e w' => e = .returned (.bool true) ∧ Below w.heap.size w w' := by
  go_enter Try.func19, Try.ntmps19
  go_wp2_with fail
  refine (chain_any w).mono ?_
  rintro e1 w1 ⟨A0, rfl, hb1, hr1⟩
  unfold gramV
  go_wp2_with fail
  refine (new_feed _ chainG A0 2 2 w1 hr1 chain_valid (by decide)).mono ?_
  rintro e2 w2 ⟨bf, lim, gd, rfl, hb2, hbf, hlim, hf2⟩
  have hbw2 := hb1.trans (hb2.mono hb1.size)
  have hgd := hf2.1
  go_wp2_with fail
  refine (put_feed 0 w2 hf2 chain_valid (by decide) (by decide)).mono ?_
  have n0 : NextT chainG (EI chainG gd [] 0) 0 := nextT_prefix (y := [0, 1]) (fun j hj => by omega) (nextT_whole (x := [0, 1]) (i := 0) hgd (chain_more _ 0 2 rfl (chain_last _ 1 rfl)) rfl)
  have n10 : NextT chainG (EI chainG gd [0] 1) 0 := nextT_prefix (y := [0, 0, 1]) (fun j hj => by rw [show j = 0 by omega]; rfl) (nextT_whole (x := [0, 0, 1]) (i := 1) hgd (chain_more _ 0 3 rfl (chain_more _ 1 3 rfl (chain_last _ 2 rfl))) rfl)
  have n11 : NextT chainG (EI chainG gd [0] 1) 1 := nextT_prefix (y := [0, 1]) (fun j hj => by rw [show j = 0 by omega]; rfl) (nextT_whole (x := [0, 1]) (i := 1) hgd (chain_more _ 0 2 rfl (chain_last _ 1 rfl)) rfl)
  have e1n : ¬ NextE chainG (EI chainG gd [0] 1) := fun h => by
    obtain ⟨m, e, h', r, k1, k2⟩ := h
    exact chain_mid (gd := gd) ⟨m, e, h', r, ei_prefix (n := 1) (fun j hj => by rw [show j = 0 by omega]; rfl) k1 (Nat.le_refl _), k2⟩
  have e2y : NextE chainG (EI chainG gd [0, 1] 2) := (nextE_iff (x := [0, 1]) hgd).2 (chain_more _ 0 2 rfl (chain_last _ 1 rfl))
  have e2n := fun t => chain_end (gd := gd) t
  have N0 := Lib.hid n0
  have N10 := Lib.hid n10
  have N11 := Lib.hid n11
  have E1 := Lib.hid e1n
  have E2 := Lib.hid e2y
  have E3 := Lib.hid e2n
  clear n0 n10 n11 e1n e2y e2n
  rintro e3 w3 (⟨h3, _⟩ | ⟨_, rfl, hst3, hf3⟩)
  · exact absurd N0.out h3
  have hb3 : Below w.heap.size w w3 := hbw2.trans ((Away.mono hst3 hbw2.size (fun j _ h => h)).below (fun j hj h => by rcases h with h | ⟨h, _⟩ <;> have := hb1.size <;> omega))
  have hf3' : IsFeed _ w3 bf lim chainG gd [0] := hf3
  go_wp2_with fail
  refine (next_feed w3 hf3' chain_valid (by decide)).mono ?_
  rintro e4 w4 ⟨b4, o4, rfl, ho4, hb4, hbb4, hk4⟩
  have ho4' := outs3 ho4 true true false (by simp [show ([0] : List Int).length = 1 from rfl, N10.out]) (by simp [show ([0] : List Int).length = 1 from rfl, N11.out]) (by simp [show ([0] : List Int).length = 1 from rfl, E1.out])
  subst ho4'
  have hf4 := hf3'.below hb4
  have hbw4 := hb3.trans (hb4.mono hb3.size)
  go_wp2_with fail
  have hbA : Below w4.heap.size w4 (w4.alloc (.cells #[.bool true, .bool true, .bool false] 4)) := (Below.refl _ _).alloc (Nat.le_refl _) _
  have hq1 : IsSl Elt.bool (fun _ => True) (w4.alloc (.cells #[.bool true, .bool true, .bool false] 4)) (.slice (some ⟨b4, 0, none⟩) 3 3) [true, true, false] := sl_of_blk (enc := Value.bool) _ trivial (blk_below hbA (blk_lt hk4) hk4) rfl (by decide)
  have hq2 : IsSl Elt.bool (fun _ => True) (w4.alloc (.cells #[.bool true, .bool true, .bool false] 4)) (.slice (some ⟨w4.heap.size, 0, none⟩) 3 3) [true, true, false] := sl_of_blk (enc := Value.bool) (xs := [true, true, false]) _ trivial (heap_alloc_new w4 _) rfl (by decide)
  refine (equal_bool _ _ _ _ _ _ _ _ _ _ _ hq1 hq2).mono ?_
  rintro e5 w5 ⟨rfl, hb5⟩
  have hf5 := (hf4.below hbA).below hb5
  have hbw5 : Below w.heap.size w w5 := (hbw4.trans (hbA.mono hbw4.size)).trans (hb5.mono (by rw [World.size_alloc]; have := hbw4.size; omega))
  rw [show decide (([true, true, false] : List Bool) = [true, true, false]) = true by decide]
  clear hq1 hq2 hk4 hb5 hbA hf4
  go_wp2_with fail
  refine (put_feed 1 w5 hf5 chain_valid (by decide) (by decide)).mono ?_
  rintro e6 w6 (⟨h6, _⟩ | ⟨_, rfl, hst6, hf6⟩)
  · exact absurd N11.out h6
  have hb6 : Below w.heap.size w w6 := hbw5.trans ((Away.mono hst6 hbw5.size (fun j _ h => h)).below (fun j hj h => by rcases h with h | ⟨h, _⟩ <;> have := hb1.size <;> omega))
  have hf6' : IsFeed _ w6 bf lim chainG gd [0, 1] := hf6
  go_wp2_with fail
  refine (next_feed w6 hf6' chain_valid (by decide)).mono ?_
  rintro e7 w7 ⟨b7, o7, rfl, ho7, hb7, hbb7, hk7⟩
  have ho7' := outs3 ho7 false false true (by simp [show ([0, 1] : List Int).length = 2 from rfl, E3.out 0]) (by simp [show ([0, 1] : List Int).length = 2 from rfl, E3.out 1]) (by simp [show ([0, 1] : List Int).length = 2 from rfl, E2.out])
  subst ho7'
  have hf7 := hf6'.below hb7
  have hbw7 := hb6.trans (hb7.mono hb6.size)
  go_wp2_with fail
  have hbB : Below w7.heap.size w7 (w7.alloc (.cells #[.bool false, .bool false, .bool true] 4)) := (Below.refl _ _).alloc (Nat.le_refl _) _
  have hq1 : IsSl Elt.bool (fun _ => True) (w7.alloc (.cells #[.bool false, .bool false, .bool true] 4)) (.slice (some ⟨b7, 0, none⟩) 3 3) [false, false, true] := sl_of_blk (enc := Value.bool) _ trivial (blk_below hbB (blk_lt hk7) hk7) rfl (by decide)
  have hq2 : IsSl Elt.bool (fun _ => True) (w7.alloc (.cells #[.bool false, .bool false, .bool true] 4)) (.slice (some ⟨w7.heap.size, 0, none⟩) 3 3) [false, false, true] := sl_of_blk (enc := Value.bool) (xs := [false, false, true]) _ trivial (heap_alloc_new w7 _) rfl (by decide)
  refine (equal_bool _ _ _ _ _ _ _ _ _ _ _ hq1 hq2).mono ?_
  rintro e8 w8 ⟨rfl, hb8⟩
  have hf8 := (hf7.below hbB).below hb8
  have hbw8 : Below w.heap.size w w8 := (hbw7.trans (hbB.mono hbw7.size)).trans (hb8.mono (by rw [World.size_alloc]; have := hbw7.size; omega))
  rw [show decide (([false, false, true] : List Bool) = [false, false, true]) = true by decide]
  clear hq1 hq2 hk7 hb8 hbB hf7
  go_wp2_with fail
  refine (back_feed 1 1 w8 hf8 (by decide) (by decide)).mono ?_
  rintro e9 w9 ⟨rfl, hst9, hf9⟩
  have hb9 : Below w.heap.size w w9 := hbw8.trans ((Away.mono hst9 hbw8.size (fun j _ h => h)).below (fun j hj h => by have := hb1.size; omega))
  have hf9' : IsFeed _ w9 bf lim chainG gd [0] := hf9
  go_wp2_with fail
  refine (word_feed w9 hf9' (by decide)).mono ?_
  rintro e10 w10 ⟨C', c', rfl, hb10, hw10⟩
  have hbw10 := hb9.trans (hb10.mono hb9.size)
  go_wp2_with fail
  have hbC : Below w10.heap.size w10 (w10.alloc (.cells #[.int .i64 0] 3)) := (Below.refl _ _).alloc (Nat.le_refl _) _
  have hq2 : IsSl Elt.int (fun _ => True) (w10.alloc (.cells #[.int .i64 0] 3)) (.slice (some ⟨w10.heap.size, 0, none⟩) 1 1) [0] := sl_of_blk (enc := Value.int .i64) (xs := [0]) _ trivial (heap_alloc_new w10 _) rfl (by decide)
  refine (equal_int _ _ _ _ _ _ _ _ _ _ _ (hw10.below hbC) hq2).mono ?_
  rintro e11 w11 ⟨rfl, hb11⟩
  have hbw11 : Below w.heap.size w w11 := (hbw10.trans (hbC.mono hbw10.size)).trans (hb11.mono (by rw [World.size_alloc]; have := hbw10.size; omega))
  rw [show decide (([0] : List Int) = [0]) = true by decide]
  go_wp2_with fail
  go_ret
  exact ⟨rfl, hbw11⟩
end Go.Proofs.Ytcndbohiiodndaa
