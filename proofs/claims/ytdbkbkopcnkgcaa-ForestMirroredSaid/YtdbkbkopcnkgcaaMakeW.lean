import Derived.Test.YtdbkbkopcnkgcaaMakeG
open Go Go.RowKit
namespace Go.Proofs.Ytdbkbkopcnkgcaa

theorem own_ints {w : World} {base n : Nat} {v : Value} {l : List Int} (h : w.ownsRow base 3 1 v n (l.map (Value.int .i64))) : IsSl Elt.int (fun b => base ≤ b) w v l := by
  have hl := h.1
  rw [List.length_map] at hl
  obtain rfl : n = l.length := by omega
  have hm := own_max h
  obtain ⟨A, c, rfl⟩ := own_form h
  refine ⟨A, c, rfl, hm, fun k hk => ?_⟩
  obtain ⟨b, cap, he, hb1, hb2⟩ := h.form (by omega)
  injection he with he1 he2 he3
  subst he1
  have k1 := h.cells (g := b) rfl k (.int .i64 l[k]) (by simp [hk])
  rw [add_lit0] at k1
  refine ⟨b, 0, rfl, hb1, cell_lt k1, hb1, ?_⟩
  show w.cell? ⟨b, 0 + k * 1, none⟩ = _
  rw [Nat.zero_add, Nat.mul_one]; exact k1
theorem Try.infoIntT : (Try.prog.info? 3).map (fun i => (i.zero, i.size, i.bytes)) = some (some (.int .i64 0), 1, 8) := by kernel_rfl

set_option maxRecDepth 100000 in
set_option maxHeartbeats 1600000 in
theorem word_any (F : Nat → Prop) (T : Int) (most : Nat) (l : List Int) (A : Option Addr) (n c : Nat) (w : World) (hl : IsSl Elt.int F w (.slice A n c) l) (hT : 0 < T ∧ T ≤ 9223372036854775807) (hm : most ≤ 100) :
    Calls Try.prog 51 #[.int .i64 T, .int .i64 most, .slice A n c] w fun e w' => ∃ (x : List Int) (C : Option Addr) (cx : Nat), e = .returned (.slice C x.length cx) ∧ x.length ≤ most ∧ (∀ t ∈ x, 0 ≤ t ∧ t < T) ∧ Below w.heap.size w w' ∧ x.length ≤ cx ∧ IsSl Elt.int (fun b => w.heap.size ≤ b) w' (.slice C x.length cx) x := by
  obtain ⟨rfl, hn⟩ := hl.len
  obtain ⟨ii, hi, hz0, hz1, hz2⟩ := info_parts Try.infoIntT
  go_enter Try.func51, Try.ntmps51
  go_wp2_with fail
  go_loopg [7, 12] l.length (fun gk v i wr => ∃ (q : Nat) (x : List Int), q ≤ l.length ∧ gk = l.length - q ∧ i = .int .i64 q ∧ Below w.heap.size w wr ∧ wr.ownsRow w.heap.size 3 1 v x.length (x.map (Value.int .i64)) ∧ x.length ≤ most ∧ ∀ t ∈ x, 0 ≤ t ∧ t < T)
  case atStart => exact ⟨0, [], by omega, by omega, rfl, Below.refl _ _, World.ownsRow_nil _ _ _ _, by simp, by simp⟩
  case round =>
    obtain ⟨q, x, hq, rfl, rfl, hb, hown, hxm, hxt⟩ := hrel
    obtain ⟨C, cx, rfl⟩ := own_form hown
    have hcx := own_cap hown
    have hsl := own_ints hown
    by_cases hlt : q < l.length
    · obtain ⟨b, o, rfl, hF, hbl, hc⟩ := (hl.below hb).oneAt q hlt
      have hqz : (q : Int) < (l.length : Int) := by omega
      by_cases hfull : x.length = most
      · have hfb : ((x.length : Int) == (most : Int)) = true := by simp [hfull]
        subst hfull
        go_wp2_with fail
        go_ret
        exact ⟨x, C, cx, rfl, hxm, hxt, hb, hcx, hsl⟩
      · have hfb : ((x.length : Int) == (most : Int)) = false := by rw [beq_eq_false_iff_ne]; omega
        go_wp2_with fail
        refine (below_int l[q] T _ hT).mono ?_
        rintro e1 w1 ⟨rfl, rfl⟩
        have hs1 := hb.size
        go_wp2_with (first | (at_builtin; refine wpList_append_src _ rfl (.tmp 20) (.tmp 24) 22 rfl w.heap.size 3 ii (.int .i64 0) 1 8 Try.underlying22 hi hz0 hz1 hz2 rfl (by decide) _ x.length (x.map (Value.int .i64)) rfl ?ho (some ⟨w1.heap.size, 0, none⟩) 1 1 [.int .i64 (l[q] % T)] rfl rfl ?c0 ?c1 ?c2 ?c3 ?c4 ?c5 ?_))
        case ho => exact hown.alloc _
        case c0 => intro h; cases h
        case c1 => intro a ha j u hj; injection ha with ha; subst ha; exact cells_new _ _ _ _ _ hj
        case c2 => intro u hu; simp only [List.mem_singleton] at hu; rw [hu]; rfl
        case c3 => unfold maxLen; omega
        case c4 => omega
        case c5 => rw [World.size_alloc]; omega
        intro v' w2 hown' hgrow hat
        have hb2 : Below w.heap.size w w2 := (hb.alloc hs1 _).grown hgrow (by rw [World.size_alloc]; omega) (own_base' hown)
        go_wp2
        go_roundg (l.length - (q + 1))
        case measure => omega
        case rel => exact ⟨q + 1, x ++ [l[q] % T], by omega, rfl, by go_num, hb2, by simpa using hown', by simp; omega, fun t ht => by
          rcases List.mem_append.1 ht with ht | ht
          · exact hxt t ht
          · simp only [List.mem_singleton] at ht
            rw [ht]
            exact ⟨Int.emod_nonneg _ (by omega), Int.emod_lt_of_pos _ hT.1⟩⟩
    · obtain rfl : q = l.length := by omega
      go_wp2
      go_ret
      exact ⟨x, C, cx, rfl, hxm, hxt, hb, hcx, hsl⟩
end Go.Proofs.Ytdbkbkopcnkgcaa
