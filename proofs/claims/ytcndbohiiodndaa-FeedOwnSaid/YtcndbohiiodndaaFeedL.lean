import Derived.Test.YtcndbohiiodndaaFeedI
open Go Go.RowKit
namespace Go.Proofs.Ytcndbohiiodndaa

theorem own_take {w : World} {base size n c m : Nat} {e : TypeId} {A : Option Addr} {xs : List Value} (h : w.ownsRow base e size (.slice A n c) n xs) (hm : m ≤ n) : w.ownsRow base e size (.slice A m c) m (xs.take (m * size)) := by
  have hl := h.1
  have hms : m * size ≤ n * size := Nat.mul_le_mul_right _ hm
  refine ⟨by rw [List.length_take, hl]; omega, ?_⟩
  rcases h.2 with ⟨he, hn⟩ | ⟨g, cap, cur, he, h1, h2, h3, h4, h5, h6⟩
  · injection he with e1 e2 e3
    exact .inl ⟨by rw [e1, e3, show m = 0 by omega], by omega⟩
  · injection he with e1 e2 e3
    refine .inr ⟨g, cap, cur, by rw [e1, e3], h1, h2, by omega, h4, h5, ?_⟩
    rw [← h6, List.take_take]
    congr 1
    omega

section
variable {D : Nat → Prop} {bf lim : Nat} {g : Gram} {gd : List Bool} {x : List Int} {S : Nat → Item → Prop} {A : Option Addr} {cr : Nat} {B : Option Addr} {cg : Nat} {C : Option Addr} {cw : Nat} {E : Option Addr} {cs : Nat} {rs : List Nat}

set_option maxRecDepth 100000 in
theorem wordOwn_any (w : World) (h : FeedAt D w bf lim g gd x S A cr B cg C cw E cs rs) (hx : x.length ≤ 12) :
    Calls Try.prog 61 #[.pointer (some ⟨bf, 0, none⟩)] w fun e w' => ∃ (C' : Option Addr) (c' : Nat), e = .returned (.slice C' x.length c') ∧ Below w.heap.size w w' ∧ w'.ownsRow w.heap.size 3 1 (.slice C' x.length c') x.length (x.map (Value.int .i64)) := by
  have hc5 := blk_cell h.blk (i := 5) rfl
  have hsl := own_ints h.word
  obtain ⟨ii, hi, hz0, hz1, hz2⟩ := info_parts Try.infoIntT
  go_enter Try.func61, Try.ntmps61
  go_wp2_with (first | (at_builtin; refine wpList_append_src _ rfl (.const (.slice none 0 0)) (.tmp 6) 22 rfl w.heap.size 3 ii (.int .i64 0) 1 8 Try.underlying22 hi hz0 hz1 hz2 rfl (by decide) (.slice none 0 0) 0 [] rfl (World.ownsRow_nil _ _ _ _) C x.length cw (x.map (Value.int .i64)) rfl ?c0 ?c1 ?c2 ?c3 ?c4 ?c5 ?c6 ?_))
  case c0 => simp
  case c1 => exact sl_none hsl
  case c2 =>
    intro a ha j u hj
    have hjl := (List.getElem?_eq_some_iff.1 hj).1
    obtain ⟨b, o, hb, _, _, hc⟩ := hsl.oneAt j (by simpa using hjl)
    rw [ha] at hb
    injection hb with hb
    subst hb
    have e : (⟨b, o, none⟩ : Addr).add j = ⟨b, o + j, none⟩ := by unfold Addr.add; split <;> simp_all
    rw [e, hc, ← hj]
    rw [List.getElem?_map, List.getElem?_eq_getElem (by simpa using hjl)]; rfl
  case c3 => intro u hu; obtain ⟨t, _, rfl⟩ := List.mem_map.1 hu; rfl
  case c4 => unfold maxLen; omega
  case c5 => omega
  case c6 => exact Nat.le_refl _
  intro v' w1 hown hg hat
  obtain ⟨C', c', rfl⟩ := own_form hown
  go_wp2
  go_ret
  exact ⟨C', c', rfl, (Below.refl _ _).grown hg (Nat.le_refl _) (by intro k hk; cases hk), by simpa using hown⟩

theorem wordOf_any (w : World) (h : FeedAt D w bf lim g gd x S A cr B cg C cw E cs rs) (hx : x.length ≤ 12) :
    Calls Try.prog 61 #[.pointer (some ⟨bf, 0, none⟩)] w fun e w' => ∃ (C' : Option Addr) (c' : Nat), e = .returned (.slice C' x.length c') ∧ Below w.heap.size w w' ∧ IsSl Elt.int (fun b => w.heap.size ≤ b) w' (.slice C' x.length c') x :=
  (wordOwn_any w h hx).mono (by rintro e w' ⟨C', c', h1, h2, h3⟩; exact ⟨C', c', h1, h2, own_ints h3⟩)

theorem FeedAt.backed {n m : Nat} {w : World} (h : FeedAt D w bf lim g gd x S A cr B cg C cw E cs rs) (hn : n + m = x.length) :
    Away w.heap.size (fun b => b = bf) w ((w.setCell ⟨bf, 5, none⟩ (.slice C m cw)).setCell ⟨bf, 6, none⟩ (.slice E (m + 1) cs)).drew.drew ∧
    FeedAt D ((w.setCell ⟨bf, 5, none⟩ (.slice C m cw)).setCell ⟨bf, 6, none⟩ (.slice E (m + 1) cs)).drew.drew bf lim g gd (x.take m) S A cr B cg C cw E cs (rs.take (m + 1)) := by
  have hlen := h.len
  have hlt := h.lt
  have h1 : (x.take m).length = m := by rw [List.length_take]; omega
  have h2 : (rs.take (m + 1)).length = m + 1 := by rw [List.length_take]; omega
  have hblk1 : (w.setCell ⟨bf, 5, none⟩ (.slice C m cw)).heap[bf]? = some (.cells #[.int .i64 g.terms, .int .i64 g.nons, .int .i64 g.start, .slice A g.rules.length cr, .slice B gd.length cg, .slice C m cw, .slice E rs.length cs] 110 (0, 0)) := (heap_set h.blk _ _).trans rfl
  have hF : ∀ j, j ≠ bf → ((w.setCell ⟨bf, 5, none⟩ (.slice C m cw)).setCell ⟨bf, 6, none⟩ (.slice E (m + 1) cs)).heap[j]? = w.heap[j]? := fun j hj => by
    rw [heap_set_ne hj, heap_set_ne hj]
  have hsz : w.heap.size ≤ ((w.setCell ⟨bf, 5, none⟩ (.slice C m cw)).setCell ⟨bf, 6, none⟩ (.slice E (m + 1) cs)).drew.drew.heap.size := by
    rw [drew_heap, drew_heap, size_setCell, size_setCell]; exact Nat.le_refl _
  have hw := own_take h.word (m := m) (by omega)
  have hs := own_take h.sets (m := m + 1) (by omega)
  rw [Nat.mul_one, ← List.map_take] at hw hs
  refine ⟨⟨rfl, rfl, rfl, hsz, fun j _ hj => hF j hj⟩, ?_, hlt, Nat.le_trans h.le hsz, h.rules.keep (fun j hj => hF j hj.2) hsz, h.good.keep (fun j hj => hF j hj.2) hsz, h.gdlen, ?_, h.wordD, ?_, h.setsD, by rw [h1, h2], ?_, ?_, ?_⟩
  · rw [h1, h2, drew_heap, drew_heap, heap_set hblk1]; rfl
  · rw [h1]; exact ((own_setCell (own_setCell hw hlt _) hlt _).drew).drew
  · rw [h2]; exact ((own_setCell (own_setCell hs hlt _) hlt _).drew).drew
  · exact h.dist.sublist (List.take_sublist _ _)
  · intro k hk
    have hk2 : k < rs.length := by rw [h2] at hk; omega
    have e : (rs.take (m + 1))[k] = rs[k] := by simp
    rw [e]
    exact ⟨(((h.maps k hk2).1.setCell h.blk _).setCell hblk1 _).same rfl, (h.maps k hk2).2⟩
  · intro k y hk hy
    rw [h1] at hk
    exact h.ok k y (by omega) hy

set_option maxRecDepth 100000 in
set_option maxHeartbeats 1600000 in
theorem back_any (n m : Nat) (w : World) (h : FeedAt D w bf lim g gd x S A cr B cg C cw E cs rs) (hx : x.length ≤ 12) (hn : n + m = x.length) :
    Calls Try.prog 60 #[.pointer (some ⟨bf, 0, none⟩), .int .i64 n] w fun e w' => e = .returned (.int .i64 0) ∧ Away w.heap.size (fun b => b = bf) w w' ∧ FeedAt D w' bf lim g gd (x.take m) S A cr B cg C cw E cs (rs.take (m + 1)) := by
  have hlen := h.len
  have hc5 := blk_cell h.blk (i := 5) rfl
  have hc6 := blk_cell h.blk (i := 6) rfl
  have hf5 : w.frozen? ⟨bf, 5, none⟩ = false := blk_free h.blk
  have hf6 : w.frozen? ⟨bf, 6, none⟩ = false := blk_free h.blk
  have hcw := own_cap h.word
  have hcs := own_cap h.sets
  have hn1 : decide ((n : Int) < 0) = false := by simp
  have hn2 : decide ((x.length : Int) < (n : Int)) = false := by simp; omega
  have hsub : (x.length : Int) - (n : Int) = (m : Int) := by omega
  have hmw : m ≤ cw := by omega
  have hms : m + 1 ≤ cs := by omega
  go_enter Try.func60, Try.ntmps60
  go_wp2_with fail
  go_region
  go_wp2_with fail
  go_region
  go_wp2_with fail
  go_ret
  exact ⟨rfl, h.backed hn⟩
end
end Go.Proofs.Ytcndbohiiodndaa
