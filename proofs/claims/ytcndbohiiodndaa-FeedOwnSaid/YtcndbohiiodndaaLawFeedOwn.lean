import Derived.Test.YtcndbohiiodndaaMade
import Derived.Test.YtcndbohiiodndaaFeedN
import Derived.Test.YtcndbohiiodndaaCopy
import Derived.Test.YtcndbohiiodndaaOwnLt
open Go Go.RowKit
namespace Go.Proofs.Ytcndbohiiodndaa

/-- rules whose numbers may be anything: only where their rows lie is told -/
structure Rough (lo mid : Nat) (w : World) (A : Option Addr) (n : Nat) (hs : List (Option Addr × Nat × Nat)) : Prop where
  len : hs.length = n
  row : ∀ k, k < n → ∃ b cur, A = some ⟨b, 0, none⟩ ∧ w.heap[b]? = some (.cells cur 60 (0, 0)) ∧ n * 2 ≤ cur.size ∧ (∀ j (h : j < hs.length), cur[j * 2 + 1]? = some (.slice hs[j].1 hs[j].2.1 hs[j].2.2)) ∧ lo ≤ b ∧ b < mid
  each : ∀ k (h : k < hs.length) (i : Nat), i < hs[k].2.1 → ∃ b cur, hs[k].1 = some ⟨b, 0, none⟩ ∧ w.heap[b]? = some (.cells cur 67 (0, 0)) ∧ hs[k].2.1 * 2 ≤ cur.size ∧ lo ≤ b ∧ b < mid

theorem Rough.set {lo mid : Nat} {w : World} {A : Option Addr} {n : Nat} {hs : List (Option Addr × Nat × Nat)} (h : Rough lo mid w A n hs) {b i : Nat} {cur : Array Value} {T : TypeId} (hb : w.heap[b]? = some (.cells cur T (0, 0))) (hT : T = 60 → ∃ k, i = k * 2) (v : Value) :
    Rough lo mid (w.setCell ⟨b, i, none⟩ v) A n hs := by
  refine ⟨h.len, fun k hk => ?_, fun k hk j hj => ?_⟩
  · obtain ⟨b', cur', h1, h2, h3, h4, h5⟩ := h.row k hk
    by_cases e : b' = b
    · subst e
      rw [hb] at h2
      injection h2 with h2
      injection h2 with e1 e2 e3
      subst e1
      obtain ⟨m, rfl⟩ := hT e2
      refine ⟨b', _, h1, (heap_set hb _ _).trans (by rw [e2]), by rw [Array.size_setIfInBounds]; exact h3, fun j hj => ?_, h5⟩
      rw [Array.getElem?_setIfInBounds_ne (by omega)]
      exact h4 j hj
    · exact ⟨b', cur', h1, (heap_set_ne e _ _).trans h2, h3, h4, h5⟩
  · obtain ⟨b', cur', h1, h2, h3, h4⟩ := h.each k hk j hj
    by_cases e : b' = b
    · subst e
      rw [hb] at h2
      injection h2 with h2
      injection h2 with e1 e2 e3
      subst e1
      exact ⟨b', _, h1, (heap_set hb _ _).trans (by rw [e2]), by rw [Array.size_setIfInBounds]; exact h3, h4⟩
    · exact ⟨b', cur', h1, (heap_set_ne e _ _).trans h2, h3, h4⟩

theorem Rough.same {lo mid : Nat} {w w' : World} {A : Option Addr} {n : Nat} {hs : List (Option Addr × Nat × Nat)} (h : Rough lo mid w A n hs) (hk : ∀ b, b < mid → w'.heap[b]? = w.heap[b]?) : Rough lo mid w' A n hs := by
  refine ⟨h.len, fun k hk' => ?_, fun k hk' j hj => ?_⟩
  · obtain ⟨b', cur', h1, h2, h3, h4, h5, h6⟩ := h.row k hk'
    exact ⟨b', cur', h1, (hk _ h6).trans h2, h3, h4, h5, h6⟩
  · obtain ⟨b', cur', h1, h2, h3, h4, h5⟩ := h.each k hk' j hj
    exact ⟨b', cur', h1, (hk _ h5).trans h2, h3, h4, h5⟩

theorem hdrs_of {w : World} {base : Nat} {v : Value} {l : List Rule} {xs : List Value} (h : OwnRules w base v l xs) : ∃ hs : List (Option Addr × Nat × Nat), hs.length = l.length ∧ ∀ k (h1 : k < hs.length) (h2 : k < l.length), hs[k].2.1 = l[k].r.length ∧ xs[k * 2 + 1]? = some (.slice hs[k].1 hs[k].2.1 hs[k].2.2) ∧ w.ownsRow base 67 2 (.slice hs[k].1 l[k].r.length hs[k].2.2) l[k].r.length (symCells l[k].r) := by
  have key : ∀ k (h2 : k < l.length), ∃ a : Option Addr × Nat × Nat, a.2.1 = l[k].r.length ∧ xs[k * 2 + 1]? = some (.slice a.1 a.2.1 a.2.2) ∧ w.ownsRow base 67 2 (.slice a.1 l[k].r.length a.2.2) l[k].r.length (symCells l[k].r) := fun k h2 => by
    obtain ⟨_, A, c, h3, h4⟩ := h.at_ k h2
    exact ⟨(A, l[k].r.length, c), rfl, h3, h4⟩
  refine ⟨(List.finRange l.length).map (fun k => (key k.1 k.2).choose), by simp, fun k h1 h2 => ?_⟩
  have e : ((List.finRange l.length).map (fun k => (key k.1 k.2).choose))[k] = (key k h2).choose := by simp
  rw [e]
  exact (key k h2).choose_spec

theorem Rough.of {base mid : Nat} {w : World} {A : Option Addr} {c : Nat} {l : List Rule} {xs : List Value} (h : OwnRules w base (.slice A l.length c) l xs) (hm : IsSl Elt.rule (fun b => b < mid) w (.slice A l.length c) l) : ∃ hs, Rough base mid w A l.length hs ∧ ∀ k (h1 : k < hs.length), hs[k].2.1 ≤ 9223372036854775807 := by
  obtain ⟨hs, hl, hk⟩ := hdrs_of h
  refine ⟨hs, ⟨hl, fun k hkl => ?_, fun k hkl i hi => ?_⟩, fun k hkl => ?_⟩
  · obtain ⟨b, o, hA, hbm, _⟩ := hm.ruleAt k hkl
    rcases h.own.2 with ⟨_, h0⟩ | ⟨gg, cap, cur, he, h1, h2, h3, h4, h5, h6⟩
    · omega
    · injection he with he1 he2 he3
      rw [he1] at hA
      injection hA with hA
      injection hA with hA1 hA2 hA3
      refine ⟨gg, cur, he1, h2, by rw [h5]; have := Nat.mul_le_mul_right 2 h3; omega, fun j hj => ?_, h1, by omega⟩
      have hx := (hk j hj (by omega)).2.1
      rw [← h6, List.getElem?_take] at hx
      split at hx
      · simpa using hx
      · cases hx
  · obtain ⟨h1, h2, h3⟩ := hk k hkl (by omega)
    have hkl2 : k < l.length := by omega
    obtain ⟨b, o, hA, hbm, hbl, hc1, A', c', hc2, hsy⟩ := hm.ruleAt k hkl2
    rw [h1] at hi
    rcases h3.2 with ⟨_, h0⟩ | ⟨gg, cap, cur, he, k1, k2, k3, k4, k5, k6⟩
    · omega
    · injection he with he1 he2 he3
      obtain ⟨b0, o0, hA0, hb0, hbl0, hd1, A0, c0, hd2, hs0⟩ := hm.ruleAt k hkl2
      obtain ⟨gb, gcap, hge, hgb1, hgb2⟩ := h.own.form (by omega)
      injection hge with hg1 hg2 hg3
      have hc := h.own.cells (g := gb) (by rw [hg1]; rfl) _ _ h2
      rw [add_lit0] at hc
      rw [hg1] at hA0
      injection hA0 with hA0
      injection hA0 with hA1 hA2 hA3
      subst hA1
      subst hA2
      rw [Nat.zero_add, hc] at hd2
      injection hd2 with hd2
      injection hd2 with hd3 hd4 hd5
      obtain ⟨b5, o5, hb5, hb6, _⟩ := hs0.symAt i (by omega)
      rw [← hd3, he1] at hb5
      injection hb5 with hb5
      injection hb5 with hb7 hb8 hb9
      exact ⟨gg, cur, he1, k2, by rw [k5, h1]; exact Nat.mul_le_mul_right 2 k3, k1, by omega⟩
  · obtain ⟨h1, h2, h3⟩ := hk k hkl (by omega)
    rw [h1]
    have := own_max h3
    omega

theorem Rough.left {lo mid : Nat} {w : World} {A : Option Addr} {n k : Nat} {hs : List (Option Addr × Nat × Nat)} (h : Rough lo mid w A n hs) (hk : k < n) (hk2 : k < hs.length) :
    ∃ b v, A = some ⟨b, 0, none⟩ ∧ w.cell? ⟨b, k * 2, none⟩ = some v ∧ w.frozen? ⟨b, k * 2, none⟩ = false ∧ w.cell? ⟨b, k * 2 + 1, none⟩ = some (.slice hs[k].1 hs[k].2.1 hs[k].2.2) ∧ (∀ u, Rough lo mid (w.setCell ⟨b, k * 2, none⟩ u) A n hs) ∧ lo ≤ b ∧ b < mid := by
  obtain ⟨b, cur, h1, h2, h3, h4, h5, h6⟩ := h.row k hk
  have hlt : k * 2 < cur.size := by omega
  exact ⟨b, cur[k * 2], h1, blk_cell h2 (Array.getElem?_eq_getElem hlt), blk_free h2, blk_cell h2 (h4 k hk2), fun u => h.set h2 (fun _ => ⟨k, rfl⟩) u, h5, h6⟩
theorem Rough.sym {lo mid : Nat} {w : World} {A : Option Addr} {n k i : Nat} {hs : List (Option Addr × Nat × Nat)} (h : Rough lo mid w A n hs) (hk : k < hs.length) (hi : i < hs[k].2.1) :
    ∃ b v, hs[k].1 = some ⟨b, 0, none⟩ ∧ w.cell? ⟨b, i * 2 + 1, none⟩ = some v ∧ w.frozen? ⟨b, i * 2 + 1, none⟩ = false ∧ (∀ u, Rough lo mid (w.setCell ⟨b, i * 2 + 1, none⟩ u) A n hs) ∧ lo ≤ b ∧ b < mid := by
  obtain ⟨b, cur, h1, h2, h3, h4, h5⟩ := h.each k hk i hi
  have hlt : i * 2 + 1 < cur.size := by omega
  exact ⟨b, cur[i * 2 + 1], h1, blk_cell h2 (Array.getElem?_eq_getElem hlt), blk_free h2, fun u => h.set h2 (fun e => absurd e (by decide)) u, h4, h5⟩

/-- the feed, and beside it the terminals that were read, in a row of the law's own, which no feed owns; nothing older than s0 has turned -/
def ReadSt (s0 : Nat) (wo w : World) (bf : Nat) (g : Gram) (gd : List Bool) (y z : List Int) (v : Value) : Prop :=
  Below s0 wo w ∧ ∃ U : Nat → Prop, FeedIn U w bf g gd y ∧ (∀ b, U b → s0 ≤ b) ∧ w.ownsRow s0 3 1 v z.length (z.map (Value.int .i64)) ∧ ∀ b, v.ownBlock = some b → ¬ U b

section
variable {s0 : Nat} {wo w w' : World} {bf : Nat} {g : Gram} {gd : List Bool} {y z : List Int} {v : Value}

theorem ReadSt.size (h : ReadSt s0 wo w bf g gd y z v) (hs : s0 ≤ wo.heap.size) : s0 ≤ w.heap.size := Nat.le_trans hs h.1.size
theorem ReadSt.below (h : ReadSt s0 wo w bf g gd y z v) (hs : s0 ≤ wo.heap.size) (hb : Below w.heap.size w w') : ReadSt s0 wo w' bf g gd y z v := by
  have hz := h.size hs
  obtain ⟨hb0, U, h1, h2, h3, h4⟩ := h
  exact ⟨hb0.trans (hb.mono hz), U, h1.below hb, h2, own_same h3 fun k hk => hb.block k (own_lt h3 k hk), h4⟩
theorem ReadSt.feed (h : ReadSt s0 wo w bf g gd y z v) : ∃ U, FeedIn U w bf g gd y := by
  obtain ⟨_, U, h1, _⟩ := h
  exact ⟨U, h1⟩
theorem ReadSt.own (h : ReadSt s0 wo w bf g gd y z v) : w.ownsRow s0 3 1 v z.length (z.map (Value.int .i64)) := by
  obtain ⟨_, U, h1, _, h3, _⟩ := h
  exact h3
/-- what a Put leaves -/
def PutSt (s0 : Nat) (wo w' : World) (e : Ending) (bf : Nat) (g : Gram) (gd : List Bool) (y z : List Int) (v : Value) (t : Nat) : Prop :=
  (e = .returned (.int .i64 10) ∧ ReadSt s0 wo w' bf g gd y z v) ∨ (e = .returned (.int .i64 0) ∧ ReadSt s0 wo w' bf g gd (y ++ [(t : Int)]) z v)
theorem ReadSt.put (h : ReadSt s0 wo w bf g gd y z v) (hs : s0 ≤ wo.heap.size) (t : Nat) (hv : Valid g) (hx : y.length < 12) (ht : (t : Int) < g.terms) :
    Calls Try.prog 22 #[.pointer (some ⟨bf, 0, none⟩), .int .i64 t] w fun e w' => PutSt s0 wo w' e bf g gd y z v t := by
  have h0 := h
  have hz := h.size hs
  obtain ⟨hb0, U, h1, h2, h3, h4⟩ := h
  refine (put_in t h1 hv hx ht).mono ?_
  rintro e w' (⟨k1, k2, k3⟩ | ⟨k1, k2, k3, k4⟩)
  · exact .inl ⟨k2, h0.below hs k3⟩
  · refine .inr ⟨k2, hb0.trans ((k3.mono hz (fun j _ hj => hj)).below fun j hj hu => by have := h2 j hu; omega), _, k4, ?_, own_same h3 fun k hk => k3.block k (own_lt h3 k hk) (h4 k hk), fun b hb hu => ?_⟩
    · rintro b (hb | hb)
      · exact h2 b hb
      · omega
    · rcases hu with hu | hu
      · exact h4 b hb hu
      · have := own_lt h3 b hb; omega
theorem FeedIn.lt {U : Nat → Prop} (h : FeedIn U w bf g gd y) (b : Nat) (hb : U b) : b < w.heap.size := by
  obtain ⟨_, lim, A, cr, B, cg, C, cw, E, cs, rs, _, _, _, _, _, hU⟩ := h
  exact hU b hb
theorem ReadSt.snoc (h : ReadSt s0 wo w bf g gd y z v) (hs : s0 ≤ wo.heap.size) {v' : Value} {t : Int} (hown : w'.ownsRow s0 3 1 v' (z.length + 1) (z.map (Value.int .i64) ++ [.int .i64 t])) (hg : w.grownBy w' v.ownBlock) (hat : v'.ownBlock = v.ownBlock ∨ v'.ownBlock = some w.heap.size) :
    ReadSt s0 wo w' bf g gd y (z ++ [t]) v' := by
  have hz := h.size hs
  obtain ⟨hb0, U, h1, h2, h3, h4⟩ := h
  have ha : Away w.heap.size (fun b => v.ownBlock = some b) w w' := Away.grown hg (Nat.le_refl _) fun k hk => .inl hk
  refine ⟨hb0.trans ((ha.mono hz (fun j _ hj => hj)).below fun j hj hu => by have := own_base' h3 j hu; omega), U, h1.away ha fun b hb hb2 => h4 b hb2 hb, h2, by simpa using hown, fun b hb hu => ?_⟩
  rcases hat with e | e
  · exact h4 b (e ▸ hb) hu
  · rw [e] at hb
    injection hb with hb
    have := h1.lt b hu
    omega
theorem ReadSt.poke (h : ReadSt s0 wo w bf g gd y z v) (hs : s0 ≤ wo.heap.size) {b i : Nat} {u : Value} (hb : Below w.heap.size w w') (hlt : w.heap.size ≤ b) : ReadSt s0 wo (w'.setCell ⟨b, i, none⟩ u) bf g gd y z v :=
  h.below hs (hb.setCell hlt _)
end

theorem own_poke {w : World} {base n c k : Nat} {e : TypeId} {C : Option Addr} {xs : List Value} (h : w.ownsRow base e 1 (.slice C n c) n xs) (hk : k < n) : ∃ b v, C = some ⟨b, 0, none⟩ ∧ base ≤ b ∧ w.cell? ⟨b, k, none⟩ = some v ∧ w.frozen? ⟨b, k, none⟩ = false := by
  obtain ⟨b, cap, he, hb1, hb2⟩ := h.form (by omega)
  injection he with he1 he2 he3
  subst he1
  have hl := h.1
  have k1 := h.cells (g := b) rfl k xs[k] (by simp)
  rw [add_lit0] at k1
  obtain ⟨cs, h2, _⟩ := own_typed h b rfl
  exact ⟨b, _, rfl, hb1, k1, blk_free h2⟩

set_option maxRecDepth 100000 in
set_option maxHeartbeats 8000000 in
theorem feedOwn_any (F F2 : Nat → Prop) (l l2 : List Int) (A : Option Addr) (n c : Nat) (A2 : Option Addr) (n2 c2 : Nat) (w : World) (hl : IsSl Elt.int F w (.slice A n c) l) (hl2 : IsSl Elt.int F2 w (.slice A2 n2 c2) l2) (hnc : n ≤ c) :
    Calls Try.prog 16 #[.slice A n c, .slice A2 n2 c2] w fun e w' => e = .returned (.bool true) ∧ Below w.heap.size w w' := by
  go_enter Try.func16, Try.ntmps16
  go_wp2_with fail
  refine (made_any F F2 l l2 A n c A2 n2 c2 7 w hl hl2 hnc (by decide)).mono ?_
  rintro e1 w1 ⟨g, A', c', x, C, cx, rfl, hM⟩
  have hv := hM.small.valid
  have hx7 := hM.most
  have t1 := hv.t1
  have t8 := hv.t8
  have h32 := hv.len
  obtain ⟨base, mid, xs, hbase, hmid, hown, hrm, hxm⟩ := hM.own
  obtain ⟨hs, hR1, hsm⟩ := Rough.of hown hrm
  have hbA : Below w1.heap.size w1 (w1.alloc (.cells #[.int .i64 g.terms, .int .i64 g.nons, .int .i64 g.start, .slice A' g.rules.length c'] 25)) := (Below.refl _ _).alloc (Nat.le_refl _) _
  have hgb := heap_alloc_new w1 (.cells #[.int .i64 g.terms, .int .i64 g.nons, .int .i64 g.start, .slice A' g.rules.length c'] 25)
  have hrA := hM.rules.below hbA
  have hxA := hxm.old.below hbA
  have hok : OkWord g x := hM.terms
  have hcap := hM.cap
  have hsA : (w1.alloc (.cells #[.int .i64 g.terms, .int .i64 g.nons, .int .i64 g.start, .slice A' g.rules.length c'] 25)).heap.size = w1.heap.size + 1 := World.size_alloc _ _
  have hb1 := hM.below
  unfold gramV
  clear hM hown hrm hxm
  generalize hWA : (w1.alloc (.cells #[.int .i64 g.terms, .int .i64 g.nons, .int .i64 g.start, .slice A' g.rules.length c'] 25)) = WA at hbA hgb hrA hxA hsA
  have hcp := copyOf_any _ g A' c' WA hrA hv
  unfold gramV at hcp
  have k0 := blk_cell hgb (i := 0) rfl
  have k1 := blk_cell hgb (i := 1) rfl
  have k2 := blk_cell hgb (i := 2) rfl
  have k3 := blk_cell hgb (i := 3) rfl
  go_wp2_with fail
  refine hcp.mono ?_
  rintro e2 w2 ⟨A3, c3, rfl, hb2, hcap3, hr3⟩
  have hgb2 := blk_below hb2 (blk_lt hgb) hgb
  have hbB : Below w2.heap.size w2 (w2.alloc (.cells #[.int .i64 g.terms, .int .i64 g.nons, .int .i64 g.start, .slice A3 g.rules.length c3] 25)) := (Below.refl _ _).alloc (Nat.le_refl _) _
  have hhb := heap_alloc_new w2 (.cells #[.int .i64 g.terms, .int .i64 g.nons, .int .i64 g.start, .slice A3 g.rules.length c3] 25)
  have hr3B := hr3.old.below hbB
  have hgbB := blk_below hbB (blk_lt hgb2) hgb2
  have hrB := (hrA.below hb2).below hbB
  have hxB := (hxA.below hb2).below hbB
  have hRB : Rough base mid (w2.alloc (.cells #[.int .i64 g.terms, .int .i64 g.nons, .int .i64 g.start, .slice A3 g.rules.length c3] 25)) A' g.rules.length hs := hR1.same fun b hb => by
    rw [Below.heap_alloc _ _ _ (by have := hb2.size; omega), hb2.block b (by omega), hbA.block b (by omega)]
  have hs2 : w1.heap.size < w2.heap.size := by have := hb2.size; omega
  have hw2 : Below w.heap.size w (w2.alloc (.cells #[.int .i64 g.terms, .int .i64 g.nons, .int .i64 g.start, .slice A3 g.rules.length c3] 25)) := ((hb1.trans (hbA.mono hb1.size)).trans (hb2.mono (by have := hb1.size; omega))).trans (hbB.mono (by have := hb1.size; omega))
  have hsB : (w2.alloc (.cells #[.int .i64 g.terms, .int .i64 g.nons, .int .i64 g.start, .slice A3 g.rules.length c3] 25)).heap.size = w2.heap.size + 1 := World.size_alloc _ _
  clear hcp hgb hrA hxA hb2 hgb2 hR1 hbB hr3
  generalize hWB : (w2.alloc (.cells #[.int .i64 g.terms, .int .i64 g.nons, .int .i64 g.start, .slice A3 g.rules.length c3] 25)) = WB at hhb hr3B hgbB hrB hxB hRB hw2 hsB
  have hnew := new_in _ g A' _ c' WB hrB hv hcap
  unfold gramV at hnew
  have k0 := blk_cell hgbB (i := 0) rfl
  have k1 := blk_cell hgbB (i := 1) rfl
  have k2 := blk_cell hgbB (i := 2) rfl
  have k3 := blk_cell hgbB (i := 3) rfl
  go_wp2_with fail
  refine hnew.mono ?_
  rintro e3 w3 ⟨ba, gd, rfl, hb3, hf3⟩
  clear hnew k0 k1 k2 k3
  go_wp2_with fail
  refine (feeds_any w3).mono ?_
  rintro e4 w4 ⟨rfl, hb4⟩
  have hf4 := hf3.below hb4
  have hB4 : Below WB.heap.size WB w4 := hb3.trans (hb4.mono hb3.size)
  have hg4 := blk_below hB4 (blk_lt hgbB) hgbB
  have hh4 := blk_below hB4 (blk_lt hhb) hhb
  have hr4 := hr3B.below hB4
  have hx4 := hxB.below hB4
  have hR4 : Rough base mid w4 A' g.rules.length hs := hRB.same fun b hb => hB4.block b (by omega)
  have hw4 := hw2.trans (hB4.mono hw2.size)
  have hs4 := hB4.size
  clear hgbB hhb hr3B hrB hxB hRB hB4 hb3 hb4 hf3
  have k3 := blk_cell hg4 (i := 3) rfl
  go_wp2_with fail
  clear k3
  go_loopg [46] g.rules.length (fun gk i wr => ∃ q : Nat, q ≤ g.rules.length ∧ gk = g.rules.length - q ∧ i = .int .i64 q ∧ Rough base mid wr A' g.rules.length hs ∧ Away w4.heap.size (fun b => base ≤ b ∧ b < mid) w4 wr)
  case atStart => exact ⟨0, by omega, by omega, rfl, hR4, Away.refl _ _ _⟩
  case round =>
    clear hR4
    obtain ⟨q, hq, rfl, rfl, hR, hA⟩ := hrel
    obtain ⟨wo, rfl⟩ : ∃ wo : World, wo = wr := ⟨_, rfl⟩
    have HQH := Lib.hid hR.len
    by_cases hlt : q < g.rules.length
    · have hqh : q < hs.length := by have := HQH.out; omega
      obtain ⟨b, v, rfl, c0, f0, c1, hset, hb1', hb2'⟩ := hR.left hlt (by have := HQH.out; omega)
      have hqz : (q : Int) < (g.rules.length : Int) := by omega
      have hgo := (hA.block w1.heap.size (blk_lt hg4) (by omega)).trans hg4
      have gk3 := blk_cell hgo (i := 3) rfl
      have hne : w1.heap.size ≠ b := by omega
      have hgs := (heap_set_ne hne (q * 2) (.int .i64 (-5))).trans hgo
      have gs3 := blk_cell hgs (i := 3) rfl
      have c1s : (wo.setCell ⟨b, q * 2, none⟩ (.int .i64 (-5))).cell? ⟨b, q * 2 + 1, none⟩ = some (.slice hs[q].1 hs[q].2.1 hs[q].2.2) := by
        obtain ⟨b', v', e, _, _, h, _⟩ := (hset (.int .i64 (-5))).left hlt (by have := HQH.out; omega)
        injection e with e
        injection e with e1 e2 e3
        subst e1
        exact h
      have hA2 : Away w4.heap.size (fun b => base ≤ b ∧ b < mid) w4 (wo.setCell ⟨b, q * 2, none⟩ (.int .i64 (-5))) := hA.trans (Away.setCell _ _ _ _ (.inl ⟨hb1', hb2'⟩))
      have hR2 := hset (.int .i64 (-5))
      have hmx := hsm q (by have := HQH.out; omega)
      go_wp2_with fail
      go_loopg [61] hs[q].2.1 (fun gk i wr => ∃ e : Nat, e ≤ hs[q].2.1 ∧ gk = hs[q].2.1 - e ∧ i = .int .i64 e ∧ Rough base mid wr (some ⟨b, 0, none⟩) g.rules.length hs ∧ Away w4.heap.size (fun b => base ≤ b ∧ b < mid) w4 wr)
      case atStart => exact ⟨0, by omega, by omega, rfl, hR2, hA2⟩
      case round =>
        clear hR hA hR2 hA2 hset c0 f0 c1 c1s hgo gk3 hgs gs3
        obtain ⟨e, he, rfl, rfl, hR, hA⟩ := hrel
        obtain ⟨wi, rfl⟩ : ∃ wi : World, wi = wr := ⟨_, rfl⟩
        have hgo := (hA.block w1.heap.size (blk_lt hg4) (by omega)).trans hg4
        have gk3 := blk_cell hgo (i := 3) rfl
        by_cases hlt2 : e < hs[q].2.1
        · have hez : (e : Int) < (hs[q].2.1 : Int) := by omega
          obtain ⟨b0, v0, e0, _, _, c1, _⟩ := hR.left hlt (by have := HQH.out; omega)
          injection e0 with e0
          injection e0 with e1 e2 e3
          subst e1
          obtain ⟨b2, v2, hse, d1, g1, hset, hb3', hb4'⟩ := hR.sym (k := q) (by have := HQH.out; omega) hlt2
          rw [hse] at c1
          clear hse
          have hA2 : Away w4.heap.size (fun b => base ≤ b ∧ b < mid) w4 (wi.setCell ⟨b2, e * 2 + 1, none⟩ (.int .i64 50)) := hA.trans (Away.setCell _ _ _ _ (.inl ⟨hb3', hb4'⟩))
          have hR2 := hset (.int .i64 50)
          go_wp2_with fail
          go_roundg (hs[q].2.1 - (e + 1))
          case measure => omega
          case rel => exact ⟨e + 1, by omega, rfl, by go_num, hR2, hA2⟩
        · obtain rfl : e = hs[q].2.1 := by omega
          go_wp2_with fail
          go_roundg (g.rules.length - (q + 1))
          case measure => omega
          case rel => exact ⟨q + 1, by omega, rfl, by go_num, hR, hA⟩
    · obtain rfl : q = g.rules.length := by omega
      go_wp2_with fail
      have hF := hf4.away (hA.mono (Nat.le_refl _) (fun _ _ h => h)) fun b hb hb2 => by omega
      have hX := hx4.keep (fun b hb => hA.block b (by omega) (by omega)) hA.size
      have hh5 := (hA.block _ (blk_lt hh4) (by omega)).trans hh4
      have hR5 := hr4.keep (fun b hb => hA.block b (by omega) (by omega)) hA.size
      have hs0 : WB.heap.size ≤ wo.heap.size := Nat.le_trans hs4 hA.size
      have hRd : ReadSt WB.heap.size wo wo ba g gd [] [] (.slice none 0 0) := ⟨Below.refl _ _, _, hF, fun b hb => hb.1, World.ownsRow_nil _ _ _ _, fun b hb => by cases hb⟩
      have hwo : Below w.heap.size w wo := hw4.trans ((hA.mono hw4.size (fun _ _ h => h)).below fun j hj hj2 => by omega)
      obtain ⟨ii, hii, hz0, hz1, hz2⟩ := info_parts Try.infoIntT
      have hlt2 : w2.heap.size < WB.heap.size := by omega
      clear hR hA hf4 hx4 hr4 hF hg4 hh4 k0 k1 k2 hsA hsB hWA hWB
      go_loopg [11, 77] x.length (fun gk rv i wr => ∃ (q : Nat) (y : List Int), q ≤ x.length ∧ gk = x.length - q ∧ i = .int .i64 q ∧ ReadSt WB.heap.size wo wr ba g gd y y rv ∧ y.length ≤ q ∧ OkWord g y)
      case atStart => exact ⟨0, [], by omega, by omega, rfl, hRd, by simp, fun t ht => by simp at ht⟩
      case round =>
        clear hRd
        obtain ⟨q, y, hq, rfl, rfl, hRd, hyq, hyo⟩ := hrel
        obtain ⟨wq, rfl⟩ : ∃ wq : World, wq = wr := ⟨_, rfl⟩
        by_cases hlt3 : q < x.length
        · obtain ⟨b, o, rfl, _, _, hc⟩ := (hX.keep (fun b hb => hRd.1.block b (by omega)) hRd.1.size).oneAt q hlt3
          have htk := hok x[q] (by simp)
          have hqz : (q : Int) < (x.length : Int) := by omega
          generalize x[q] = t at hc htk
          obtain ⟨tk, rfl⟩ : ∃ k : Nat, t = (k : Int) := ⟨t.toNat, by omega⟩
          have hw6 : ∀ w6 : World, True := fun _ => trivial
          go_wp2_with fail
          refine (hRd.put hs0 tk hv (by omega) htk.2).mono ?_
          rintro e6 w6 (⟨rfl, hR6⟩ | ⟨rfl, hR6⟩)
          · go_wp2_with fail
            obtain ⟨U, hU⟩ := hR6.feed
            have hzl : y.length ≤ q + 1 := by first | omega | (rw [List.length_append, List.length_singleton]; omega)
            have hzo : OkWord g y := hyo
            generalize y = z at *
            refine (word_in hU (by omega)).mono ?_
            rintro e8 w8 ⟨C8, c8, rfl, hb8, -⟩
            have hR8 := hR6.below hs0 hb8
            clear hU hb8 hR6
            go_wp2_with fail
            go_loopg [92] z.length (fun gk i wr => ∃ e : Nat, e ≤ z.length ∧ gk = z.length - e ∧ i = .int .i64 e ∧ ReadSt WB.heap.size wo wr ba g gd z z u11)
            case atStart => exact ⟨0, by omega, by omega, rfl, hR8⟩
            case round =>
              clear hR8
              obtain ⟨e, he, rfl, rfl, hR8⟩ := hrel
              obtain ⟨wz, rfl⟩ : ∃ wz : World, wz = wr := ⟨_, rfl⟩
              by_cases hlt4 : e < z.length
              · have hez : (e : Int) < (z.length : Int) := by omega
                obtain ⟨U, hU⟩ := hR8.feed
                go_wp2_with fail
                refine (word_own hU (by omega)).mono ?_
                rintro e9 w9 ⟨C9, c9, rfl, hb9, hown9⟩
                obtain ⟨b9, v9, rfl, hlo9, hc9, hf9⟩ := own_poke hown9 hlt4
                have hR9 := hR8.poke hs0 (i := e) (u := .int .i64 77) hb9 hlo9
                clear hown9 hU
                go_wp2_with fail
                go_roundg (z.length - (e + 1))
                case measure => omega
                case rel => exact ⟨e + 1, by omega, rfl, by go_num, hR9⟩
              · obtain rfl : e = z.length := by omega
                obtain ⟨U, hU⟩ := hR8.feed
                go_wp2_with fail
                refine (next_in hU hv (by omega)).mono ?_
                rintro e9 w9 ⟨b9, o9, rfl, ho9, hb9, -, -⟩
                have hR9 := hR8.below hs0 hb9
                have ho9l := ho9.len
                clear hU hb9 hR8
                go_wp2_with fail
                go_loopg [103] o9.length (fun gk i wr => ∃ e : Nat, e ≤ o9.length ∧ gk = o9.length - e ∧ i = .int .i64 e ∧ ReadSt WB.heap.size wo wr ba g gd z z u11)
                case atStart => exact ⟨0, by omega, by omega, rfl, hR9⟩
                case round =>
                  clear hR9
                  obtain ⟨e, he, rfl, rfl, hR8⟩ := hrel
                  obtain ⟨wz, rfl⟩ : ∃ wz : World, wz = wr := ⟨_, rfl⟩
                  by_cases hlt4 : e < o9.length
                  · have hez : (e : Int) < (o9.length : Int) := by omega
                    obtain ⟨U, hU⟩ := hR8.feed
                    go_wp2_with fail
                    refine (next_in hU hv (by omega)).mono ?_
                    rintro e9 w9 ⟨b1, o1, rfl, ho1, hb1, hlo1, hk1⟩
                    obtain rfl := outs_uniq ho9 ho1
                    have hc1 := blk_cell hk1 (i := e) (v := .bool o9[e]) (by simp [hlt4])
                    have hf1 : w9.frozen? ⟨b1, e, none⟩ = false := blk_free hk1
                    have hR9 := hR8.poke hs0 (i := e) (u := .bool true) hb1 hlo1
                    clear hU hk1 ho1
                    go_wp2_with fail
                    go_roundg (o9.length - (e + 1))
                    case measure => omega
                    case rel => exact ⟨e + 1, by omega, rfl, by go_num, hR9⟩
                  · obtain rfl : e = o9.length := by omega
                    go_wp2_with fail
                    go_roundg (x.length - (q + 1))
                    case measure => omega
                    case rel => exact ⟨q + 1, z, by omega, rfl, by go_num, hR8, hzl, hzo⟩
          · have hown6 := hR6.own
            go_wp2_with (first | (at_builtin; refine wpList_append_src _ rfl (.tmp 85) (.tmp 87) 22 rfl WB.heap.size 3 ii (.int .i64 0) 1 8 Try.underlying22 hii hz0 hz1 hz2 rfl (by decide) _ y.length (y.map (Value.int .i64)) rfl ?ho (some ⟨w6.heap.size, 0, none⟩) 1 1 [.int .i64 tk] rfl rfl ?c0 ?c1 ?c2 ?c3 ?c4 ?c5 ?_))
            case ho => exact hown6.alloc _
            case c0 => intro h; cases h
            case c1 => intro a ha j u hj; injection ha with ha; subst ha; exact cells_new _ _ _ _ _ hj
            case c2 => intro u hu; simp at hu; subst hu; rfl
            case c3 => unfold maxLen; omega
            case c4 => omega
            case c5 => rw [World.size_alloc]; have := hR6.size hs0; omega
            intro v' w7 hown7 hg7 hat7
            have hR7 := (hR6.below hs0 ((Below.refl _ _).alloc (Nat.le_refl _) _)).snoc hs0 hown7 hg7 (by rw [World.size_alloc]; exact hat7)
            go_wp2_with fail
            obtain ⟨U, hU⟩ := hR7.feed
            have hzl : (y ++ [(tk : Int)]).length ≤ q + 1 := by first | omega | (rw [List.length_append, List.length_singleton]; omega)
            have hzo : OkWord g (y ++ [(tk : Int)]) := fun t ht => by
                rcases List.mem_append.1 ht with h | h
                · exact hyo t h
                · simp at h; subst h; exact htk
            generalize (y ++ [(tk : Int)]) = z at *
            refine (word_in hU (by omega)).mono ?_
            rintro e8 w8 ⟨C8, c8, rfl, hb8, -⟩
            have hR8 := hR7.below hs0 hb8
            clear hU hb8 hR7
            go_wp2_with fail
            go_loopg [92] z.length (fun gk i wr => ∃ e : Nat, e ≤ z.length ∧ gk = z.length - e ∧ i = .int .i64 e ∧ ReadSt WB.heap.size wo wr ba g gd z z v')
            case atStart => exact ⟨0, by omega, by omega, rfl, hR8⟩
            case round =>
              clear hR8
              obtain ⟨e, he, rfl, rfl, hR8⟩ := hrel
              obtain ⟨wz, rfl⟩ : ∃ wz : World, wz = wr := ⟨_, rfl⟩
              by_cases hlt4 : e < z.length
              · have hez : (e : Int) < (z.length : Int) := by omega
                obtain ⟨U, hU⟩ := hR8.feed
                go_wp2_with fail
                refine (word_own hU (by omega)).mono ?_
                rintro e9 w9 ⟨C9, c9, rfl, hb9, hown9⟩
                obtain ⟨b9, v9, rfl, hlo9, hc9, hf9⟩ := own_poke hown9 hlt4
                have hR9 := hR8.poke hs0 (i := e) (u := .int .i64 77) hb9 hlo9
                clear hown9 hU
                go_wp2_with fail
                go_roundg (z.length - (e + 1))
                case measure => omega
                case rel => exact ⟨e + 1, by omega, rfl, by go_num, hR9⟩
              · obtain rfl : e = z.length := by omega
                obtain ⟨U, hU⟩ := hR8.feed
                go_wp2_with fail
                refine (next_in hU hv (by omega)).mono ?_
                rintro e9 w9 ⟨b9, o9, rfl, ho9, hb9, -, -⟩
                have hR9 := hR8.below hs0 hb9
                have ho9l := ho9.len
                clear hU hb9 hR8
                go_wp2_with fail
                go_loopg [103] o9.length (fun gk i wr => ∃ e : Nat, e ≤ o9.length ∧ gk = o9.length - e ∧ i = .int .i64 e ∧ ReadSt WB.heap.size wo wr ba g gd z z v')
                case atStart => exact ⟨0, by omega, by omega, rfl, hR9⟩
                case round =>
                  clear hR9
                  obtain ⟨e, he, rfl, rfl, hR8⟩ := hrel
                  obtain ⟨wz, rfl⟩ : ∃ wz : World, wz = wr := ⟨_, rfl⟩
                  by_cases hlt4 : e < o9.length
                  · have hez : (e : Int) < (o9.length : Int) := by omega
                    obtain ⟨U, hU⟩ := hR8.feed
                    go_wp2_with fail
                    refine (next_in hU hv (by omega)).mono ?_
                    rintro e9 w9 ⟨b1, o1, rfl, ho1, hb1, hlo1, hk1⟩
                    obtain rfl := outs_uniq ho9 ho1
                    have hc1 := blk_cell hk1 (i := e) (v := .bool o9[e]) (by simp [hlt4])
                    have hf1 : w9.frozen? ⟨b1, e, none⟩ = false := blk_free hk1
                    have hR9 := hR8.poke hs0 (i := e) (u := .bool true) hb1 hlo1
                    clear hU hk1 ho1
                    go_wp2_with fail
                    go_roundg (o9.length - (e + 1))
                    case measure => omega
                    case rel => exact ⟨e + 1, by omega, rfl, by go_num, hR9⟩
                  · obtain rfl : e = o9.length := by omega
                    go_wp2_with fail
                    go_roundg (x.length - (q + 1))
                    case measure => omega
                    case rel => exact ⟨q + 1, z, by omega, rfl, by go_num, hR8, hzl, hzo⟩
        · obtain rfl : q = x.length := by omega
          obtain ⟨Ar, cr, rfl⟩ := own_form hRd.own
          obtain ⟨U, hU⟩ := hRd.feed
          have hh6 := (hRd.1.block _ hlt2).trans hh5
          have hR6 := hR5.keep (fun b hb => hRd.1.block b (by omega)) hRd.1.size
          have hwq := hwo.trans (hRd.1.mono hw2.size |>.mono (Nat.le_refl _))
          clear hh5 hR5 hX hwo
          go_wp2_with fail
          refine (forest_in hU hv (by omega) hyo).mono ?_
          rintro e6 w6 ⟨M, N, cn, hM, rfl, hb6, hs6⟩
          have hRd6 := hRd.below hs0 hb6
          have hh7 := blk_below hb6 (blk_lt hh6) hh6
          have hR7 := hR6.below hb6
          have hw6 := hwq.trans (hb6.mono hwq.size)
          clear hh6 hR6 hwq hb6 hRd hU
          have hbA : Below w6.heap.size w6 (w6.alloc (.cells #[.slice N (madeF g y M).1.nodes.length cn, .int .i64 (madeF g y M).1.root] 101)) := (Below.refl _ _).alloc (Nat.le_refl _) _
          have hfa := heap_alloc_new w6 (.cells #[.slice N (madeF g y M).1.nodes.length cn, .int .i64 (madeF g y M).1.root] 101)
          have hRdA := hRd6.below hs0 hbA
          have hsa := hs6.below hbA
          have hhA := blk_below hbA (blk_lt hh7) hh7
          have hof := of_any (fun _ => True) hv (show y.length ≤ 12 by omega) _ hcap3 hyo ((hR7.below hbA).weak fun _ _ => trivial) ((own_ints hRdA.own).weak fun _ _ => trivial)
          unfold gramV at hof
          have k0 := blk_cell hhA (i := 0) rfl
          have k1 := blk_cell hhA (i := 1) rfl
          have k2 := blk_cell hhA (i := 2) rfl
          have k3 := blk_cell hhA (i := 3) rfl
          have hwA := hw6.trans (hbA.mono hw6.size)
          have HFF := Lib.hid (rfl : madeF g y M = madeF g y M)
          clear hRd6 hh7 hR7 hs6 hhA hw6 hbA
          go_wp2_with fail
          refine hof.mono ?_
          rintro e7 w7 ⟨M', N', cn', hM', rfl, hb7, hs7⟩
          obtain rfl := hM.unique hM'
          have hRd7 := hRdA.below hs0 hb7
          have hfa7 := blk_below hb7 (blk_lt hfa) hfa
          have hsa7 := hsa.below hb7
          have hw7 := hwA.trans (hb7.mono hwA.size)
          clear hRdA hfa hsa hof hb7 hwA k0 k1 k2 k3
          have hbB : Below w7.heap.size w7 (w7.alloc (.cells #[.slice N' (madeF g y M).1.nodes.length cn', .int .i64 (madeF g y M).1.root] 101)) := (Below.refl _ _).alloc (Nat.le_refl _) _
          have hfb := heap_alloc_new w7 (.cells #[.slice N' (madeF g y M).1.nodes.length cn', .int .i64 (madeF g y M).1.root] 101)
          have hfaB := blk_below hbB (blk_lt hfa7) hfa7
          have hRdB := hRd7.below hs0 hbB
          have hsaB := hsa7.below hbB
          have hsbB := hs7.below hbB
          have hwB := hw7.trans (hbB.mono hw7.size)
          clear hRd7 hfa7 hsa7 hs7 hw7 hbB
          obtain ⟨U, hU⟩ := hRdB.feed
          go_wp2_with fail
          refine (word_in hU (by omega)).mono ?_
          rintro e8 w8 ⟨C8, c8, rfl, hb8, hs8⟩
          have hRd8 := hRdB.below hs0 hb8
          have heq := equal_int _ _ y y C8 _ c8 Ar _ cr w8 hs8 (own_ints hRd8.own)
          rw [decide_eq_true (rfl : y = y)] at heq
          have hfa8 := blk_below hb8 (blk_lt hfaB) hfaB
          have hfb8 := blk_below hb8 (blk_lt hfb) hfb
          have hsa8 := hsaB.below hb8
          have hsb8 := hsbB.below hb8
          have hw8 := hwB.trans (hb8.mono hwB.size)
          clear hRdB hU hfaB hfb hsaB hsbB hwB hs8 hb8
          go_wp2_with fail
          refine heq.mono ?_
          rintro e9 w9 ⟨rfl, hb9⟩
          have hfa9 := blk_below hb9 (blk_lt hfa8) hfa8
          have hfb9 := blk_below hb9 (blk_lt hfb8) hfb8
          have hw9 := hw8.trans (hb9.mono hw8.size)
          have hsame := same_any _ _ (madeF g y M).1 N cn N' cn' _ (hsa8.below hb9) (hsb8.below hb9)
          have q0 := blk_cell hfa9 (i := 0) rfl
          have q1 := blk_cell hfa9 (i := 1) rfl
          have r0 := blk_cell hfb9 (i := 0) rfl
          have r1 := blk_cell hfb9 (i := 1) rfl
          generalize (madeF g y M).1.nodes.length = ln at *
          generalize (madeF g y M).1.root = rt at *
          generalize (madeF g y M).2 = er at *
          clear hfa8 hfb8 hsa8 hsb8 hw8 hb9 heq hRd8 hfa9 hfb9
          go_wp2_with fail
          refine hsame.mono ?_
          rintro e10 w10 ⟨rfl, hb10⟩
          go_wp2_with fail
          go_ret
          exact ⟨rfl, hw9.trans (hb10.mono hw9.size)⟩
end Go.Proofs.Ytcndbohiiodndaa
