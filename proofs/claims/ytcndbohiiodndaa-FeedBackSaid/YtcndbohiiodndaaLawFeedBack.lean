import Derived.Test.YtcndbohiiodndaaFeedN
import Derived.Test.YtcndbohiiodndaaMade
open Go Go.RowKit
namespace Go.Proofs.Ytcndbohiiodndaa

/-- two feeds that share nothing -/
def Two (W wr : World) (ba bb : Nat) (g : Gram) (gd : List Bool) (y z : List Int) : Prop :=
  Below W.heap.size W wr ∧ ∃ U V : Nat → Prop, FeedIn U wr ba g gd y ∧ FeedIn V wr bb g gd z ∧ (∀ b, U b → ¬ V b) ∧ (∀ b, U b ∨ V b → W.heap.size ≤ b)

section
variable {W w w' : World} {ba bb : Nat} {g : Gram} {gd : List Bool} {y z : List Int}

theorem Two.symm (h : Two W w ba bb g gd y z) : Two W w bb ba g gd z y := by
  obtain ⟨hb, U, V, h1, h2, h3, h4⟩ := h
  exact ⟨hb, V, U, h2, h1, fun b hv hu => h3 b hu hv, fun b hb => h4 b hb.symm⟩
theorem Two.below (h : Two W w ba bb g gd y z) (hb : Below w.heap.size w w') : Two W w' ba bb g gd y z := by
  obtain ⟨hb0, U, V, h1, h2, h3, h4⟩ := h
  exact ⟨hb0.trans (hb.mono hb0.size), U, V, h1.below hb, h2.below hb, h3, h4⟩
theorem Two.first (h : Two W w ba bb g gd y z) : ∃ U, FeedIn U w ba g gd y := by
  obtain ⟨hb0, U, V, h1, h2, h3, h4⟩ := h
  exact ⟨U, h1⟩
/-- what a Put leaves -/
def PutEnd (W w' : World) (e : Ending) (ba bb : Nat) (g : Gram) (gd : List Bool) (y z : List Int) (t : Nat) : Prop :=
  (¬ NextT g (EI g gd y y.length) t ∧ e = .returned (.int .i64 10) ∧ Two W w' ba bb g gd y z) ∨ (NextT g (EI g gd y y.length) t ∧ e = .returned (.int .i64 0) ∧ Two W w' ba bb g gd (y ++ [(t : Int)]) z)
theorem Two.put (h : Two W w ba bb g gd y z) (t : Nat) (hv : Valid g) (hx : y.length < 12) (ht : (t : Int) < g.terms) :
    Calls Try.prog 22 #[.pointer (some ⟨ba, 0, none⟩), .int .i64 t] w fun e w' => PutEnd W w' e ba bb g gd y z t := by
  obtain ⟨hb0, U, V, h1, h2, h3, h4⟩ := h
  have hV := h2.2
  refine (put_in t h1 hv hx ht).mono ?_
  rintro e w' (⟨k1, k2, k3⟩ | ⟨k1, k2, k3, k4⟩)
  · exact .inl ⟨k1, k2, Two.below ⟨hb0, U, V, h1, h2, h3, h4⟩ k3⟩
  · obtain ⟨lim, A, cr, B, cg, C, cw, E, cs, rs, _, _, _, _, _, hVl⟩ := hV
    have hs := hb0.size
    refine .inr ⟨k1, k2, hb0.trans ((k3.mono hs (fun j _ hj => hj)).below fun j hj hu => by have := h4 j (.inl hu); omega), _, V, k4, h2.away k3 (fun b hv hu => h3 b hu hv), ?_, ?_⟩
    · intro b hb hv
      rcases hb with hb | hb
      · exact h3 b hb hv
      · have := hVl b hv; omega
    · intro b hb
      rcases hb with (hb | hb) | hb
      · exact h4 b (.inl hb)
      · omega
      · exact h4 b (.inr hb)
theorem Two.back (h : Two W w ba bb g gd y z) (n m : Nat) (hx : y.length ≤ 12) (hn : n + m = y.length) :
    Calls Try.prog 60 #[.pointer (some ⟨ba, 0, none⟩), .int .i64 n] w fun e w' => e = .returned (.int .i64 0) ∧ Two W w' ba bb g gd (y.take m) z := by
  obtain ⟨hb0, U, V, h1, h2, h3, h4⟩ := h
  refine (back_in n m h1 hx hn).mono ?_
  rintro e w' ⟨k1, k2, k3⟩
  have hs := hb0.size
  exact ⟨k1, hb0.trans ((k2.mono hs (fun j _ hj => hj)).below fun j hj hu => by have := h4 j (.inl hu); omega), U, V, k3, h2.away k2 (fun b hv hu => h3 b hu hv), h3, h4⟩
end

theorem two_new {W w1 w2 : World} {ba bb : Nat} {g : Gram} {gd gd' : List Bool} (h1 : FeedIn (fun b => W.heap.size ≤ b ∧ b < w1.heap.size) w1 ba g gd []) (hb1 : Below W.heap.size W w1) (h2 : FeedIn (fun b => w1.heap.size ≤ b ∧ b < w2.heap.size) w2 bb g gd' []) (hb2 : Below w1.heap.size w1 w2) : Two W w2 ba bb g gd [] [] := by
  obtain rfl : gd' = gd := h2.1.uniq h1.1
  have hs := hb1.size
  exact ⟨hb1.trans (hb2.mono hs), _, _, h1.below hb2, h2, fun b h3 h4 => by omega, fun b hb => by omega⟩

set_option maxRecDepth 100000 in
set_option maxHeartbeats 1600000 in
theorem feedBack_any (F F2 F3 : Nat → Prop) (l l2 l3 : List Int) (A : Option Addr) (n c : Nat) (A2 : Option Addr) (n2 c2 : Nat) (A3 : Option Addr) (n3 c3 : Nat) (nn : Int) (w : World) (hl : IsSl Elt.int F w (.slice A n c) l) (hl2 : IsSl Elt.int F2 w (.slice A2 n2 c2) l2) (hl3 : IsSl Elt.int F3 w (.slice A3 n3 c3) l3) (hnc : n ≤ c) :
    Calls Try.prog 15 #[.slice A n c, .slice A2 n2 c2, .slice A3 n3 c3, .int .i64 nn] w fun e w' => e = .returned (.bool true) ∧ Below w.heap.size w w' := by
  go_enter Try.func15, Try.ntmps15
  go_wp2_with fail
  refine (made_any F F2 l l2 A n c A2 n2 c2 6 w hl hl2 hnc (by decide)).mono ?_
  rintro e1 w1 ⟨g, A', c', x, C, cx, rfl, hM⟩
  have hv := hM.small.valid
  have hx6 := hM.most
  have hcx := hM.capx
  have t1 := hv.t1
  have t8 := hv.t8
  have hbA : Below w1.heap.size w1 (w1.alloc (.cells #[.int .i64 g.terms, .int .i64 g.nons, .int .i64 g.start, .slice A' g.rules.length c'] 25)) := (Below.refl _ _).alloc (Nat.le_refl _) _
  have hgb := heap_alloc_new w1 (.cells #[.int .i64 g.terms, .int .i64 g.nons, .int .i64 g.start, .slice A' g.rules.length c'] 25)
  have hrA := hM.rules.below hbA
  have hxA := hM.word.below hbA
  have hok : OkWord g x := hM.terms
  have hcap := hM.cap
  have hb1 : Below w.heap.size w (w1.alloc (.cells #[.int .i64 g.terms, .int .i64 g.nons, .int .i64 g.start, .slice A' g.rules.length c'] 25)) := hM.below.trans (hbA.mono hM.below.size)
  have hsA : (w1.alloc (.cells #[.int .i64 g.terms, .int .i64 g.nons, .int .i64 g.start, .slice A' g.rules.length c'] 25)).heap.size = w1.heap.size + 1 := World.size_alloc _ _
  unfold gramV
  go_wp2_with fail
  refine (word_any _ g.terms 5 l3 A3 n3 c3 _ (hl3.below hb1) (by omega) (by decide)).mono ?_
  rintro e2 w2 ⟨m, C2, cm, rfl, hm5, hmt, hb2, hcm, hmA⟩
  have hgb2 := blk_below hb2 (blk_lt hgb) hgb
  have hr2 := hrA.below hb2
  have hx2 := hxA.below hb2
  have hb12 := hb1.trans (hb2.mono hb1.size)
  have hs12 : w1.heap.size < w2.heap.size := by have := hb2.size; omega
  clear hM hbA hgb hrA hxA hb2 hsA hb1 hl hl2 hl3
  have hnew := new_in _ g A' _ c' w2 hr2 hv hcap
  unfold gramV at hnew
  have k0 := blk_cell hgb2 (i := 0) rfl
  have k1 := blk_cell hgb2 (i := 1) rfl
  have k2 := blk_cell hgb2 (i := 2) rfl
  have k3 := blk_cell hgb2 (i := 3) rfl
  go_wp2_with fail
  refine hnew.mono ?_
  rintro e3 w3 ⟨ba, gd, rfl, hb3, hf3⟩
  have hnew := new_in _ g A' _ c' w3 (hr2.below hb3) hv hcap
  unfold gramV at hnew
  have hgb3 := blk_below hb3 (blk_lt hgb2) hgb2
  have k0 := blk_cell hgb3 (i := 0) rfl
  have k1 := blk_cell hgb3 (i := 1) rfl
  have k2 := blk_cell hgb3 (i := 2) rfl
  have k3 := blk_cell hgb3 (i := 3) rfl
  go_wp2_with fail
  refine hnew.mono ?_
  rintro e4 w4 ⟨bb, gd', rfl, hb4, hf4⟩
  have hT := two_new hf3 hb3 hf4 hb4
  clear hnew hf3 hf4 k0 k1 k2 k3 hgb2 hgb3
  go_wp2_with fail
  refine (feeds_any w4).mono ?_
  rintro e5 w5 ⟨rfl, hb5⟩
  have hT5 := hT.below hb5
  clear hT hb3 hb4 hb5
  go_wp2_with fail
  go_loopg [57] x.length (fun gk i wr => ∃ (q : Nat) (y : List Int), q ≤ x.length ∧ gk = x.length - q ∧ i = .int .i64 q ∧ Two w2 wr ba bb g gd y y ∧ y.length ≤ q ∧ OkWord g y)
  case atStart => exact ⟨0, [], by omega, by omega, rfl, hT5, by simp, fun t ht => by simp at ht⟩
  case round =>
    clear hT5
    obtain ⟨q, y, hq, rfl, rfl, hT, hyq, hyo⟩ := hrel
    by_cases hlt : q < x.length
    · obtain ⟨b, o, rfl, _, _, hc⟩ := (hx2.below hT.1).oneAt q hlt
      have htk := hok x[q] (by simp)
      have hqz : (q : Int) < (x.length : Int) := by omega
      generalize x[q] = t at hc htk
      obtain ⟨tk, rfl⟩ : ∃ k : Nat, t = (k : Int) := ⟨t.toNat, by omega⟩
      go_wp2_with fail
      refine (hT.put tk hv (by omega) htk.2).mono ?_
      rintro e6 w6 (⟨hno, rfl, hT6⟩ | ⟨hyes, rfl, hT6⟩)
      · go_wp2_with fail
        refine (hT6.symm.put tk hv (by omega) htk.2).mono ?_
        rintro e7 w7 (⟨_, rfl, hT7⟩ | ⟨hyes, _, _⟩)
        · go_wp2_with fail
          go_roundg (x.length - (q + 1))
          case measure => omega
          case rel => exact ⟨q + 1, y, by omega, rfl, by go_num, hT7.symm, by omega, hyo⟩
        · exact absurd hyes hno
      · go_wp2_with fail
        refine (hT6.symm.put tk hv (by omega) htk.2).mono ?_
        rintro e7 w7 (⟨hno, _, _⟩ | ⟨_, rfl, hT7⟩)
        · exact absurd hyes hno
        · go_wp2_with fail
          go_roundg (x.length - (q + 1))
          case measure => omega
          case rel => exact ⟨q + 1, y ++ [(tk : Int)], by omega, rfl, by go_num, hT7.symm, by simp; omega, fun t ht => by
            rcases List.mem_append.1 ht with h | h
            · exact hyo t h
            · simp at h; subst h; exact htk⟩
    · obtain rfl : q = x.length := by omega
      go_wp2_with fail
      go_loopg [16, 71] m.length (fun gk kc i wr => ∃ (q : Nat) (z : List Int), q ≤ m.length ∧ gk = m.length - q ∧ i = .int .i64 q ∧ kc = .int .i64 z.length ∧ Two w2 wr ba bb g gd (y ++ z) y ∧ z.length ≤ q ∧ OkWord g z)
      case atStart => exact ⟨0, [], by omega, by omega, rfl, rfl, by simpa using hT, by simp, fun t ht => by simp at ht⟩
      case round =>
        clear hT
        obtain ⟨q, z, hq, rfl, rfl, rfl, hT, hzq, hzo⟩ := hrel
        by_cases hlt : q < m.length
        · obtain ⟨b, o, rfl, _, _, hc⟩ := (hmA.below hT.1).oneAt q hlt
          have htk := hmt m[q] (by simp)
          have hqz : (q : Int) < (m.length : Int) := by omega
          generalize m[q] = t at hc htk
          obtain ⟨tk, rfl⟩ : ∃ k : Nat, t = (k : Int) := ⟨t.toNat, by omega⟩
          go_wp2_with fail
          refine (hT.put tk hv (by simp; omega) htk.2).mono ?_
          rintro e6 w6 (⟨hno, rfl, hT6⟩ | ⟨hyes, rfl, hT6⟩)
          · go_wp2_with fail
            go_roundg (m.length - (q + 1))
            case measure => omega
            case rel => exact ⟨q + 1, z, by omega, rfl, by go_num, rfl, hT6, by omega, hzo⟩
          · go_wp2_with fail
            go_roundg (m.length - (q + 1))
            case measure => omega
            case rel => exact ⟨q + 1, z ++ [(tk : Int)], by omega, rfl, by go_num, by simp, by rw [← List.append_assoc]; exact hT6, by simp; omega, fun t ht => by
              rcases List.mem_append.1 ht with h | h
              · exact hzo t h
              · simp at h; subst h; exact htk⟩
        · obtain rfl : q = m.length := by omega
          obtain ⟨U, hU⟩ := hT.first
          have hbk := back_much (z.length + x.length + 1) hU (by rw [List.length_append]; omega)
          simp only [Int.natCast_add, Int.natCast_one] at hbk
          go_wp2_with fail
          refine hbk.mono ?_
          rintro e6 w6 ⟨rfl, hb6⟩
          have hT6 := hT.below hb6
          go_wp2_with fail
          refine (hT6.back z.length y.length (by rw [List.length_append]; omega) (by rw [List.length_append]; omega)).mono ?_
          rintro e7 w7 ⟨rfl, hT7⟩
          rw [List.take_left' rfl] at hT7
          clear hT hT6 hU hbk hb6
          obtain ⟨U, hU⟩ := hT7.first
          go_wp2_with fail
          refine (word_in hU (by omega)).mono ?_
          rintro e8 w8 ⟨C8, c8, rfl, hb8, hs8⟩
          have hT8 := hT7.below hb8
          clear hU
          obtain ⟨V, hV⟩ := hT8.symm.first
          go_wp2_with fail
          refine (word_in hV (by omega)).mono ?_
          rintro e9 w9 ⟨C9, c9, rfl, hb9, hs9⟩
          have hT9 := hT8.below hb9
          have heq := equal_int _ _ y y C8 _ c8 C9 _ c9 w9 (hs8.below hb9) hs9
          rw [decide_eq_true (rfl : y = y)] at heq
          clear hV hT7 hT8
          go_wp2_with fail
          refine heq.mono ?_
          rintro e10 w10 ⟨rfl, hb10⟩
          have hT10 := hT9.below hb10
          clear hT9 heq hs8 hs9 hb8 hb9 hb10
          go_wp2_with fail
          go_loopg [106] m.length (fun gk i wr => ∃ (q : Nat) (z : List Int), q ≤ m.length ∧ gk = m.length - q ∧ i = .int .i64 q ∧ Two w2 wr ba bb g gd (y ++ z) (y ++ z) ∧ z.length ≤ q ∧ OkWord g z)
          case atStart => exact ⟨0, [], by omega, by omega, rfl, by simpa using hT10, by simp, fun t ht => by simp at ht⟩
          case round =>
            clear hT10
            obtain ⟨q, v, hq, rfl, rfl, hT, hvq, hvo⟩ := hrel
            obtain ⟨wo, rfl⟩ : ∃ wo : World, wo = wr := ⟨_, rfl⟩
            have hlen : (y ++ v).length = y.length + v.length := List.length_append
            have hyvo : OkWord g (y ++ v) := fun t ht => by
              rcases List.mem_append.1 ht with h | h
              · exact hyo t h
              · exact hvo t h
            by_cases hlt : q < m.length
            · obtain ⟨b, o, rfl, _, _, hc⟩ := (hmA.below hT.1).oneAt q hlt
              have htk := hmt m[q] (by simp)
              have hqz : (q : Int) < (m.length : Int) := by omega
              generalize m[q] = t at hc htk
              obtain ⟨tk, rfl⟩ : ∃ k : Nat, t = (k : Int) := ⟨t.toNat, by omega⟩
              obtain ⟨U, hU⟩ := hT.first
              go_wp2_with fail
              refine (next_in hU hv (by omega)).mono ?_
              rintro e6 w6 ⟨b6, o6, rfl, ho6, hb6, _, hk6⟩
              have hT6 := hT.below hb6
              clear hT hU
              obtain ⟨V, hV⟩ := hT6.symm.first
              go_wp2_with fail
              refine (next_in hV hv (by omega)).mono ?_
              rintro e7 w7 ⟨b7, o7, rfl, ho7, hb7, _, hk7⟩
              obtain rfl := outs_uniq ho6 ho7
              have hT7 := hT6.below hb7
              have hol := ho6.len
              have heq := equal_bool (fun _ => True) (fun _ => True) o6 o6 (some ⟨b6, 0, none⟩) _ o6.length (some ⟨b7, 0, none⟩) _ o6.length w7 (sl_of_blk (enc := Value.bool) _ trivial (blk_below hb7 (blk_lt hk6) hk6) rfl (by omega)) (sl_of_blk (enc := Value.bool) _ trivial hk7 rfl (by omega))
              rw [decide_eq_true (rfl : o6 = o6)] at heq
              clear hT6 hV hb6 hb7 hk6 hk7 ho6 ho7 hol
              go_wp2_with fail
              refine heq.mono ?_
              rintro e8 w8 ⟨rfl, hb8⟩
              have hT8 := hT7.below hb8
              clear heq hb8 hT7
              go_wp2_with fail
              refine (hT8.put tk hv (by omega) htk.2).mono ?_
              rintro e9 w9 (⟨hno, rfl, hT9⟩ | ⟨hyes, rfl, hT9⟩)
              · go_wp2_with fail
                refine (hT9.symm.put tk hv (by omega) htk.2).mono ?_
                rintro e10 w10 (⟨_, rfl, hT10⟩ | ⟨hyes, _, _⟩)
                · go_wp2_with fail
                  go_roundg (m.length - (q + 1))
                  case measure => omega
                  case rel => exact ⟨q + 1, v, by omega, rfl, by go_num, hT10.symm, by omega, hvo⟩
                · exact absurd hyes hno
              · go_wp2_with fail
                refine (hT9.symm.put tk hv (by omega) htk.2).mono ?_
                rintro e10 w10 (⟨hno, _, _⟩ | ⟨_, rfl, hT10⟩)
                · exact absurd hyes hno
                · go_wp2_with fail
                  go_roundg (m.length - (q + 1))
                  case measure => omega
                  case rel => exact ⟨q + 1, v ++ [(tk : Int)], by omega, rfl, by go_num, by rw [← List.append_assoc]; exact hT10.symm, by rw [List.length_append, List.length_singleton]; omega, fun t ht => by
                    rcases List.mem_append.1 ht with h | h
                    · exact hvo t h
                    · simp at h; subst h; exact htk⟩
            · obtain rfl : q = m.length := by omega
              obtain ⟨U, hU⟩ := hT.first
              go_wp2_with fail
              refine (forest_in hU hv (by omega) hyvo).mono ?_
              rintro e6 w6 ⟨M, N, cn, hM, rfl, hb6, hs6⟩
              have hT6 := hT.below hb6
              clear hT hU
              obtain ⟨V, hV⟩ := hT6.symm.first
              have hV' := hV.below (w' := w6.alloc (.cells #[.slice N (madeF g (y ++ v) M).1.nodes.length cn, .int .i64 (madeF g (y ++ v) M).1.root] 101)) ((Below.refl _ _).alloc (Nat.le_refl _) _)
              have hfa := heap_alloc_new w6 (.cells #[.slice N (madeF g (y ++ v) M).1.nodes.length cn, .int .i64 (madeF g (y ++ v) M).1.root] 101)
              have hsa := hs6.below (w' := w6.alloc (.cells #[.slice N (madeF g (y ++ v) M).1.nodes.length cn, .int .i64 (madeF g (y ++ v) M).1.root] 101)) ((Below.refl _ _).alloc (Nat.le_refl _) _)
              have HFF := Lib.hid (rfl : madeF g (y ++ v) M = madeF g (y ++ v) M)
              go_wp2_with fail
              refine (forest_in hV' hv (by omega) hyvo).mono ?_
              rintro e7 w7 ⟨M', N', cn', hM', rfl, hb7, hs7⟩
              obtain rfl := hM.unique hM'
              have hfa7 := blk_below hb7 (blk_lt hfa) hfa
              have hsa7 := hsa.below hb7
              have hbB : Below w7.heap.size w7 (w7.alloc (.cells #[.slice N' (madeF g (y ++ v) M).1.nodes.length cn', .int .i64 (madeF g (y ++ v) M).1.root] 101)) := (Below.refl _ _).alloc (Nat.le_refl _) _
              have hfb := heap_alloc_new w7 (.cells #[.slice N' (madeF g (y ++ v) M).1.nodes.length cn', .int .i64 (madeF g (y ++ v) M).1.root] 101)
              have hfa8 := blk_below hbB (blk_lt hfa7) hfa7
              have hsame := same_any _ _ (madeF g (y ++ v) M).1 N cn N' cn' _ (hsa7.below hbB) (hs7.below hbB)
              have q0 := blk_cell hfa8 (i := 0) rfl
              have q1 := blk_cell hfa8 (i := 1) rfl
              have r0 := blk_cell hfb (i := 0) rfl
              have r1 := blk_cell hfb (i := 1) rfl
              have hw6 : Below w.heap.size w w6 := hb12.trans (hT6.1.mono hb12.size)
              have hw7 : Below w.heap.size w (w7.alloc (.cells #[.slice N' (madeF g (y ++ v) M).1.nodes.length cn', .int .i64 (madeF g (y ++ v) M).1.root] 101)) := ((hw6.alloc hw6.size _).trans (hb7.mono (by rw [World.size_alloc]; have := hw6.size; omega))).trans (hbB.mono (by have := hb7.size; rw [World.size_alloc] at this; have := hw6.size; omega))
              generalize (madeF g (y ++ v) M).1.nodes.length = ln at *
              generalize (madeF g (y ++ v) M).1.root = rt at *
              generalize (madeF g (y ++ v) M).2 = er at *
              clear hfa hfa7 hfa8 hfb hV hV' hT6 hs6 hs7 hsa hsa7 hb6
              go_wp2_with fail
              refine hsame.mono ?_
              rintro e8 w8 ⟨rfl, hb8⟩
              go_wp2_with fail
              go_ret
              exact ⟨rfl, hw7.trans (hb8.mono hw7.size)⟩
end Go.Proofs.Ytcndbohiiodndaa
