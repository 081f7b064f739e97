import Derived.Test.YtdbkbkopcnkgcaaRevInt
import Derived.Test.YtdbkbkopcnkgcaaShape
import Derived.Test.YtdbkbkopcnkgcaaWorld
import Derived.Test.YtdbkbkopcnkgcaaForO
import Derived.Test.YtdbkbkopcnkgcaaOwn
open Go Go.RowKit
namespace Go.Proofs.Ytdbkbkopcnkgcaa

/-! ### rules that the law has made, each right side apart -/
structure RulesAt (w : World) (base : Nat) (v : Value) (l : List Rule) (xs : List Value) : Prop where
  own : w.ownsRow base 47 2 v l.length xs
  at_ : ∀ k (h : k < l.length), xs[k * 2]? = some (.int .i64 l[k].l) ∧ ∃ A c, xs[k * 2 + 1]? = some (.slice A l[k].r.length c) ∧ l[k].r.length ≤ c ∧ ((A = none ∧ l[k].r = [] ∧ c = 0) ∨ ∃ b, A = some ⟨b, 0, none⟩ ∧ base ≤ b ∧ SymsAt w b l[k].r)
  dist : DistR xs l.length

theorem RulesAt.ofOwn {w : World} {base : Nat} {v : Value} {l : List Rule} {xs : List Value} (h : OwnRules w base v l xs) (hd : DistR xs l.length) : RulesAt w base v l xs := by
  refine ⟨h.own, fun k hk => ?_, hd⟩
  obtain ⟨h1, A, c, h2, h3⟩ := h.at_ k hk
  refine ⟨h1, A, c, h2, own_cap h3, ?_⟩
  rcases h3.2 with ⟨he, hn⟩ | ⟨g', cap, cur, he, _⟩
  · injection he with e1 e2 e3
    exact .inl ⟨e1, List.eq_nil_of_length_eq_zero hn, e3⟩
  · injection he with e1 e2 e3
    subst e1
    obtain ⟨cs, hcs, hb⟩ := own_typed h3 g' rfl
    refine .inr ⟨g', rfl, hb, cs, hcs, fun z hz => ?_⟩
    obtain ⟨s1, s2⟩ := symCells_get l[k].r z hz
    have k1 := h3.cells (g := g') rfl _ _ s1
    have k2 := h3.cells (g := g') rfl _ _ s2
    rw [add_lit0, cell_of_row w g' _ cs _ _ hcs] at k1 k2
    exact ⟨k1, k2⟩

section
variable {w w' : World} {base : Nat} {v : Value} {l : List Rule} {xs : List Value}
theorem RulesAt.keep (h : RulesAt w base v l xs) (hk : ∀ b, base ≤ b → b < w.heap.size → w'.heap[b]? = w.heap[b]?) : RulesAt w' base v l xs :=
  ⟨own_same h.own fun k e => hk k (own_base' h.own k e) (own_lt0 h.own k e), fun k hk2 => by
    obtain ⟨h1, A, c, h2, h3, h4⟩ := h.at_ k hk2
    refine ⟨h1, A, c, h2, h3, ?_⟩
    rcases h4 with h4 | ⟨b, e, hb, h4⟩
    · exact .inl h4
    · have hlt : b < w.heap.size := by obtain ⟨cs, hcs, _⟩ := h4; exact blk_lt hcs
      exact .inr ⟨b, e, hb, h4.same (hk b hb hlt)⟩, h.dist⟩
theorem RulesAt.below (h : RulesAt w base v l xs) (hb : Below w.heap.size w w') : RulesAt w' base v l xs := h.keep fun b _ hlt => hb.block b hlt

theorem syms_ne_rules (h : w.ownsRow base 47 2 v l.length xs) {b : Nat} {L : List Sym} (hb : SymsAt w b L) : v.ownBlock ≠ some b := fun e => by
  obtain ⟨cs', h1, _⟩ := own_typed h b e
  obtain ⟨cs, h2, _⟩ := hb
  rw [h1] at h2
  injection h2 with h2
  injection h2 with _ h2
  cases h2

/-- the right side of one rule is written anew, in its own block -/
theorem RulesAt.write (h : RulesAt w base v l xs) {q b c : Nat} {s' : List Sym} (hq : q < l.length) (hA : xs[q * 2 + 1]? = some (.slice (some ⟨b, 0, none⟩) l[q].r.length c)) (hs : SymsAt w b l[q].r) (hs' : SymsAt w' b s') (hl : s'.length = l[q].r.length) (ha : Away w.heap.size (fun k => k = b) w w') : RulesAt w' base v (l.set q ⟨l[q].l, s'⟩) xs := by
  refine ⟨by rw [List.length_set]; exact own_same h.own fun k e => ha.block k (own_lt0 h.own k e) fun e2 => syms_ne_rules h.own hs (e2 ▸ e), fun k hk => ?_, by rw [List.length_set]; exact h.dist⟩
  rw [List.length_set] at hk
  obtain ⟨h1, A, c', h2, h3, h4⟩ := h.at_ k hk
  rw [List.getElem_set]
  by_cases e : q = k
  · subst e
    rw [if_pos rfl]
    rw [hA] at h2
    injection h2 with h2
    injection h2 with e1 e2 e3
    subst e1
    subst e3
    refine ⟨h1, _, _, by rw [hl]; exact hA, by rw [hl]; exact h3, .inr ?_⟩
    rcases h4 with ⟨h4, _⟩ | ⟨b', e4, hb, _⟩
    · cases h4
    · injection e4 with e4
      injection e4 with e4
      subst e4
      exact ⟨b, rfl, hb, hs'⟩
  · rw [if_neg e]
    refine ⟨h1, A, c', h2, h3, ?_⟩
    rcases h4 with h4 | ⟨b', rfl, hb, h4⟩
    · exact .inl h4
    · refine .inr ⟨b', rfl, hb, h4.same (ha.block b' (by obtain ⟨cs, hcs, _⟩ := h4; exact blk_lt hcs) fun e2 => ?_)⟩
      subst e2
      have g1 : (xs.getD (q * 2 + 1) undef).ownBlock = some b' := by rw [List.getD_eq_getElem?_getD, hA]; rfl
      have g2 : (xs.getD (k * 2 + 1) undef).ownBlock = some b' := by rw [List.getD_eq_getElem?_getD, h2]; rfl
      rcases Nat.lt_or_ge q k with hlt | hge
      · exact h.dist q k hlt hk b' g1 g2
      · exact h.dist k q (by omega) hq b' g2 g1
theorem RulesAt.isSl (h : RulesAt w base v l xs) (hsm : ∀ r ∈ l, r.r.length ≤ 9223372036854775807) : IsSl Elt.rule (fun b => base ≤ b) w v l := by
  have ho := h.own
  have hm := own_max ho
  obtain ⟨A, c, rfl⟩ := own_form ho
  refine ⟨A, c, rfl, hm, fun k hk => ?_⟩
  obtain ⟨b, cap, he, hb1, hb2⟩ := ho.form (by omega)
  injection he with he1 he2 he3
  subst he1
  obtain ⟨h1, A', c', h2, h3, h4⟩ := h.at_ k hk
  have k1 := ho.cells (g := b) rfl _ _ h1
  have k2 := ho.cells (g := b) rfl _ _ h2
  rw [add_lit0] at k1 k2
  have hsl : IsSl Elt.sym (fun b => base ≤ b) w (.slice A' l[k].r.length c') l[k].r := by
    rcases h4 with ⟨rfl, h4, _⟩ | ⟨b', rfl, hb, h4⟩
    · rw [h4]; exact ⟨none, c', rfl, by simp, fun k hk => absurd hk (by simp)⟩
    · exact h4.isSl _ hb c' (hsm _ (List.getElem_mem hk))
  refine ⟨b, 0, rfl, hb1, cell_lt k1, ⟨hb1, ?_⟩, ⟨hb1, A', c', ?_, h3, hsl⟩⟩
  · show w.cell? ⟨b, 0 + k * 2, none⟩ = _
    rw [Nat.zero_add]; exact k1
  · show w.cell? ⟨b, 0 + k * 2 + 1, none⟩ = _
    rw [Nat.zero_add]; exact k2
/-- the cells of a rule -/
theorem RulesAt.cellAt {A : Option Addr} {n c : Nat} (h : RulesAt w base (.slice A n c) l xs) {k : Nat} (hk : k < l.length) : ∃ b, A = some ⟨b, 0, none⟩ ∧ base ≤ b ∧ w.cell? ⟨b, k * 2, none⟩ = some (.int .i64 l[k].l) ∧ ∃ A' c', xs[k * 2 + 1]? = some (.slice A' l[k].r.length c') ∧ w.cell? ⟨b, k * 2 + 1, none⟩ = some (.slice A' l[k].r.length c') ∧ ((A' = none ∧ l[k].r = [] ∧ c' = 0) ∨ ∃ b', A' = some ⟨b', 0, none⟩ ∧ base ≤ b' ∧ SymsAt w b' l[k].r) := by
  obtain ⟨b, cap, he, hb1, hb2⟩ := h.own.form (by omega)
  injection he with he1 he2 he3
  subst he1
  obtain ⟨h1, A', c', h2, h3, h4⟩ := h.at_ k hk
  have k1 := h.own.cells (g := b) rfl _ _ h1
  have k2 := h.own.cells (g := b) rfl _ _ h2
  rw [add_lit0] at k1 k2
  exact ⟨b, rfl, hb1, k1, A', c', h2, k2, h4⟩
end

/-! ### parlkeep3.mirrored -/
def mirQ (l : List Rule) (q : Nat) : List Rule := (l.take q).map mirR ++ l.drop q
theorem mirQ_len {l : List Rule} {q : Nat} (h : q ≤ l.length) : (mirQ l q).length = l.length := by unfold mirQ; simp; omega
theorem mirQ_get {l : List Rule} {q : Nat} (h : q < l.length) : (mirQ l q)[q]'(by rw [mirQ_len (by omega)]; exact h) = l[q] := by
  unfold mirQ
  rw [List.getElem_append_right (by simp; omega)]
  simp [Nat.min_eq_left (Nat.le_of_lt h)]
theorem mirQ_set {l : List Rule} {q : Nat} (h : q < l.length) : (mirQ l q).set q (mirR l[q]) = mirQ l (q + 1) := by
  unfold mirQ
  rw [List.set_append_right _ _ (by simp; omega)]
  have e : q - ((l.take q).map mirR).length = 0 := by simp; omega
  rw [e, List.drop_eq_getElem_cons h, List.set_cons_zero, List.take_succ_eq_append_getElem h, List.map_append]
  simp

set_option maxRecDepth 100000 in
set_option maxHeartbeats 3200000 in
theorem mirrored_any (F : Nat → Prop) (g : Gram) (A0 : Option Addr) (c : Nat) (w : World) (hr : IsSl Elt.rule F w (.slice A0 g.rules.length c) g.rules) (hv : Valid g) :
    Calls Try.prog 23 #[gramV g (.slice A0 g.rules.length c)] w fun e w' => ∃ A' c', e = .returned (gramV (mirG g) (.slice A' g.rules.length c')) ∧ Below w.heap.size w w' ∧ g.rules.length ≤ c' ∧ IsSl Elt.rule (fun b => w.heap.size ≤ b) w' (.slice A' g.rules.length c') (mirG g).rules := by
  have h32 := hv.len
  have hb2 := below2 w (.cells #[.int .i64 g.terms, .int .i64 g.nons, .int .i64 g.start, .slice A0 g.rules.length c] 25) (.cells #[.int .i64 0, .int .i64 0, .int .i64 0, .slice none 0 0] 25)
  have g0 := blk_new1 (w := w) rfl (.cells #[.int .i64 g.terms, .int .i64 g.nons, .int .i64 g.start, .slice A0 g.rules.length c] 25) (.cells #[.int .i64 0, .int .i64 0, .int .i64 0, .slice none 0 0] 25)
  have g1 := blk_new' (w := w.alloc (.cells #[.int .i64 g.terms, .int .i64 g.nons, .int .i64 g.start, .slice A0 g.rules.length c] 25)) (a := w.heap.size + 1) (World.size_alloc _ _) (.cells #[.int .i64 0, .int .i64 0, .int .i64 0, .slice none 0 0] 25)
  have hcp := copyOf_dist F g A0 c _ (hr.below hb2) hv
  have hs2 : ((w.alloc (.cells #[.int .i64 g.terms, .int .i64 g.nons, .int .i64 g.start, .slice A0 g.rules.length c] 25)).alloc (.cells #[.int .i64 0, .int .i64 0, .int .i64 0, .slice none 0 0] 25)).heap.size = w.heap.size + 2 := by rw [World.size_alloc, World.size_alloc]
  have k0 := blk_cell g0 (i := 0) rfl
  have k1 := blk_cell g0 (i := 1) rfl
  have k2 := blk_cell g0 (i := 2) rfl
  have k3 := blk_cell g0 (i := 3) rfl
  unfold gramV at hcp ⊢
  rw [hs2] at hcp
  clear hr
  go_enter Try.func23, Try.ntmps23
  go_wp2_with fail
  refine hcp.mono ?_
  rintro e2 w2 ⟨A, c2, rfl, hb, hcap, -, xs, hO, hD⟩
  have h1 := blk_below hb (by rw [← hs2]; exact blk_lt g1) g1
  have hw2 : Below w.heap.size w w2 := hb2.trans (by rw [← hs2] at hb; exact hb.mono hb2.size)
  have hs3 := hb.size
  rw [hs2] at hs3
  have hR := RulesAt.ofOwn hO hD
  have hbx := below1 w2 (.cells #[.int .i64 g.terms, .int .i64 g.nons, .int .i64 g.start, .slice A g.rules.length c2] 25)
  have gx := heap_alloc_new w2 (.cells #[.int .i64 g.terms, .int .i64 g.nons, .int .i64 g.start, .slice A g.rules.length c2] 25)
  have hR3 := hR.below hbx
  have h13 := blk_below hbx (blk_lt h1) h1
  have hw3 := hw2.trans (hbx.mono hw2.size)
  have hsx := World.size_alloc w2 (.cells #[.int .i64 g.terms, .int .i64 g.nons, .int .i64 g.start, .slice A g.rules.length c2] 25)
  have hlen := g.rules.length
  have m3 := blk_cell gx (i := 3) rfl
  clear hcp k0 k1 k2 k3 g0 g1 hb2 hb hO hD h1 hw2 hR hbx
  go_wp2_with fail
  generalize w2.alloc (.cells #[.int .i64 g.terms, .int .i64 g.nons, .int .i64 g.start, .slice A g.rules.length c2] 25) = W at gx hR3 h13 hw3 hsx m3 ⊢
  generalize w2.heap.size = bx at gx hs3 hsx ⊢
  clear m3
  have hR0 : RulesAt W (w.heap.size + 2 + 3) (.slice A g.rules.length c2) (mirQ g.rules 0) xs := by unfold mirQ; simpa using hR3
  clear hR3
  go_loopg [11] g.rules.length (fun gk i wr => ∃ q : Nat, q ≤ g.rules.length ∧ gk = g.rules.length - q ∧ i = .int .i64 q ∧ RulesAt wr (w.heap.size + 2 + 3) (.slice A g.rules.length c2) (mirQ g.rules q) xs ∧ Below w.heap.size w wr ∧ wr.heap[bx]? = some (.cells #[.int .i64 g.terms, .int .i64 g.nons, .int .i64 g.start, .slice A g.rules.length c2] 25 (0, 0)) ∧ wr.heap[w.heap.size + 1]? = some (.cells #[.int .i64 0, .int .i64 0, .int .i64 0, .slice none 0 0] 25 (0, 0)))
  case atStart => exact ⟨0, by omega, by omega, rfl, hR0, hw3, gx, h13⟩
  case round =>
    clear hR0 hw3 gx h13
    obtain ⟨q, hq, rfl, rfl, hR, hw, gx, h1⟩ := hrel
    obtain ⟨wo, rfl⟩ : ∃ wo : World, wo = wr := ⟨_, rfl⟩
    by_cases hlt : q < g.rules.length
    · have hqz : (q : Int) < (g.rules.length : Int) := by omega
      have hok := hv.ok g.rules[q] (List.getElem_mem hlt)
      obtain ⟨b, hA, hbb, c0, A5, c5, hx5, c1, hcase⟩ := hR.cellAt (k := q) (by rw [mirQ_len hq]; exact hlt)
      have hg : (mirQ g.rules q)[q]'(by rw [mirQ_len hq]; exact hlt) = g.rules[q] := mirQ_get hlt
      have hset := mirQ_set hlt
      have hwr := fun (w' : World) (s' : List Sym) (b : Nat) (h1 : A5 = some ⟨b, 0, none⟩) (h2 : SymsAt wo b g.rules[q].r) (h3 : SymsAt w' b s') (h4 : s'.length = g.rules[q].r.length) (h5 : Away wo.heap.size (fun k => k = b) wo w') => hR.write (q := q) (b := b) (c := c5) (s' := s') (by rw [mirQ_len hq]; exact hlt) (by rw [← h1]; exact hx5) (by rw [hg]; exact h2) h3 (by rw [hg]; exact h4) h5
      rw [hg] at c0 c1 hcase hwr
      have hmr : mirR g.rules[q] = ⟨g.rules[q].l, g.rules[q].r.reverse⟩ := rfl
      rw [hmr] at hset
      have hbl := blk_lt gx
      have hl1 := blk_lt h1
      generalize g.rules[q] = r at c0 c1 hcase hwr hset hok hg
      have hl4 := hok.len
      subst hA
      have hbB := below1 wo (.cells #[.int .i64 r.l, .slice A5 r.r.length c5] 47)
      have hrr := heap_alloc_new wo (.cells #[.int .i64 r.l, .slice A5 r.r.length c5] 47)
      have v1 := blk_cell hrr (i := 1) rfl
      have hw5 := hw.trans (hbB.mono hw.size)
      have gx5 := blk_below hbB hbl gx
      have h15 := blk_below hbB hl1 h1
      have hR5 := hR.below hbB
      rcases hcase with ⟨rfl, hr0, rfl⟩ | ⟨b5, rfl, hb5, hs5⟩
      · have hset2 : mirQ g.rules (q + 1) = mirQ g.rules q := by
          rw [← hset]
          have hr' : (⟨r.l, r.r.reverse⟩ : Rule) = (mirQ g.rules q)[q]'(by rw [mirQ_len hq]; exact hlt) := by
            rw [hg, hr0]
            obtain ⟨rl, rr⟩ := r
            simp only at hr0
            rw [hr0]
            rfl
          rw [hr']
          exact List.set_getElem_self _
        rw [← hset2] at hR5
        have HR5 := Lib.hid hR5
        have hr00 : r.r.length = 0 := by rw [hr0]; rfl
        rw [hr00] at c1 v1 hw5 gx5 h15 HR5
        clear hwr hset hset2 hg hR5 hR hrr hbB hx5 hok
        rw [hr00] at hl4
        go_wp2_with fail
        refine (reverse_none _).mono ?_
        rintro e7 w7 ⟨rfl, rfl⟩
        go_wp2_with fail
        go_roundg (g.rules.length - (q + 1))
        case measure => omega
        case rel => exact ⟨q + 1, by omega, rfl, by go_num, HR5.out, hw5, gx5, h15⟩
      · have hs6 : SymsAt (wo.alloc (.cells #[.int .i64 r.l, .slice (some ⟨b5, 0, none⟩) r.r.length c5] 47)) b5 r.r := hs5.same (Below.heap_alloc _ _ _ (by obtain ⟨cs, hcs, _⟩ := hs5; exact blk_lt hcs))
        have hrev := reverse_sym r.r b5 c5 _ hs6 (by omega)
        have hne : ∀ {b' : Nat} {cs : Array Value}, (wo.alloc (.cells #[.int .i64 r.l, .slice (some ⟨b5, 0, none⟩) r.r.length c5] 47)).heap[b']? = some (.cells cs 25 (0, 0)) → b' ≠ b5 := fun h e => by
          subst e
          obtain ⟨cs', h2, _⟩ := hs6
          rw [h2] at h
          injection h with h
          injection h with _ h
          cases h
        have HREV := Lib.hid hrev
        have HWR := Lib.hid hwr
        have HSET := Lib.hid hset
        have hbs := hbB.size
        clear hrev hwr hset hg hR5 hR hx5 hok hs6
        go_wp2_with fail
        refine HREV.out.mono ?_
        rintro e7 w7 ⟨rfl, hs7, ha7⟩
        have hb7 : w.heap.size ≤ b5 := by omega
        have ha8 : Away wo.heap.size (fun k => k = b5) wo w7 := (Away.ofBelow hbB).trans (ha7.mono hbs fun _ _ h => h)
        have hR7 := HWR.out w7 r.r.reverse b5 rfl hs5 hs7 (by simp) ha8
        rw [HSET.out] at hR7
        have gx7 := (ha7.block bx (blk_lt gx5) (hne gx5)).trans gx5
        have h17 := (ha7.block _ (blk_lt h15) (hne h15)).trans h15
        have hw7 : Below w.heap.size w w7 := ((Away.ofBelow (F := fun _ => False) hw5).trans (ha7.mono hw5.size fun b hb h => by omega)).below fun _ _ h => h
        have HR7 := Lib.hid hR7
        clear hR7 HWR HREV HSET hs7 hs5 ha7 ha8
        go_wp2_with fail
        go_roundg (g.rules.length - (q + 1))
        case measure => omega
        case rel => exact ⟨q + 1, by omega, rfl, by go_num, HR7.out, hw7, gx7, h17⟩
    · obtain rfl : q = g.rules.length := by omega
      have hmir : mirQ g.rules g.rules.length = (mirG g).rules := by unfold mirQ mirG; simp
      rw [hmir] at hR
      have hsl := hR.isSl fun r hr => by
        have := (mir_valid hv).ok r hr
        have := this.len
        omega
      have k0 := blk_cell gx (i := 0) rfl
      have k1 := blk_cell gx (i := 1) rfl
      have k2 := blk_cell gx (i := 2) rfl
      have k3 := blk_cell gx (i := 3) rfl
      have r0 := blk_cell h1 (i := 0) rfl
      have r1 := blk_cell h1 (i := 1) rfl
      have r2 := blk_cell h1 (i := 2) rfl
      have r3 := blk_cell h1 (i := 3) rfl
      have f0 : wo.frozen? ⟨w.heap.size + 1, 0, none⟩ = false := blk_free h1
      have f1 : wo.frozen? ⟨w.heap.size + 1, 1, none⟩ = false := blk_free h1
      have f2 : wo.frozen? ⟨w.heap.size + 1, 2, none⟩ = false := blk_free h1
      have f3 : wo.frozen? ⟨w.heap.size + 1, 3, none⟩ = false := blk_free h1
      have hfin : ((((wo.setCell ⟨w.heap.size + 1, 0, none⟩ (.int .i64 g.terms)).setCell ⟨w.heap.size + 1, 1, none⟩ (.int .i64 g.nons)).setCell ⟨w.heap.size + 1, 2, none⟩ (.int .i64 g.start)).setCell ⟨w.heap.size + 1, 3, none⟩ (.slice A g.rules.length c2)).heap[w.heap.size + 1]? = some (.cells #[.int .i64 g.terms, .int .i64 g.nons, .int .i64 g.start, .slice A g.rules.length c2] 25 (0, 0)) := by
        rw [heap_set (heap_set (heap_set (heap_set h1 _ _) _ _) _ _)]; rfl
      have hbl : Below w.heap.size w ((((wo.setCell ⟨w.heap.size + 1, 0, none⟩ (.int .i64 g.terms)).setCell ⟨w.heap.size + 1, 1, none⟩ (.int .i64 g.nons)).setCell ⟨w.heap.size + 1, 2, none⟩ (.int .i64 g.start)).setCell ⟨w.heap.size + 1, 3, none⟩ (.slice A g.rules.length c2)) :=
        (((hw.setCell (p := ⟨w.heap.size + 1, 0, none⟩) (show w.heap.size ≤ w.heap.size + 1 by omega) _).setCell (p := ⟨w.heap.size + 1, 1, none⟩) (show w.heap.size ≤ w.heap.size + 1 by omega) _).setCell (p := ⟨w.heap.size + 1, 2, none⟩) (show w.heap.size ≤ w.heap.size + 1 by omega) _).setCell (p := ⟨w.heap.size + 1, 3, none⟩) (show w.heap.size ≤ w.heap.size + 1 by omega) _
      have hsl2 : IsSl Elt.rule (fun b => w.heap.size ≤ b) ((((wo.setCell ⟨w.heap.size + 1, 0, none⟩ (.int .i64 g.terms)).setCell ⟨w.heap.size + 1, 1, none⟩ (.int .i64 g.nons)).setCell ⟨w.heap.size + 1, 2, none⟩ (.int .i64 g.start)).setCell ⟨w.heap.size + 1, 3, none⟩ (.slice A g.rules.length c2)) (.slice A g.rules.length c2) (mirG g).rules :=
        (hsl.keep (fun j hj => by rw [heap_set_ne (by omega), heap_set_ne (by omega), heap_set_ne (by omega), heap_set_ne (by omega)]) (by simp only [size_setCell]; exact Nat.le_refl _)).weak (fun j hj => by omega)
      have HSL := Lib.hid hsl2
      have HBL := Lib.hid hbl
      clear hsl hsl2 hbl hR gx h1
      go_wp2_with fail
      first
        | refine bodyPost_ret (results_cell rfl rfl (run_loadVar_row _ (w.heap.size + 1) 25 25 #[.int .i64 g.terms, .int .i64 g.nons, .int .i64 g.start, .slice A g.rules.length c2] (0, 0) _ hfin Try.underlying25 rfl (by kernel_rfl))) rfl ?_
        | refine bodyPost_end (results_cell rfl rfl (run_loadVar_row _ (w.heap.size + 1) 25 25 #[.int .i64 g.terms, .int .i64 g.nons, .int .i64 g.start, .slice A g.rules.length c2] (0, 0) _ hfin Try.underlying25 rfl (by kernel_rfl))) rfl ?_
        | trace_state
      exact ⟨A, c2, rfl, HBL.out, hcap, HSL.out⟩
end Go.Proofs.Ytdbkbkopcnkgcaa

open Go Go.RowKit
namespace Go.Proofs.Ytdbkbkopcnkgcaa

/-! ### slices.ContainsFunc over nodes -/
section
variable {F : Nat → Prop} {id : FuncId} {caps : Array Value}

set_option maxRecDepth 100000 in
set_option maxHeartbeats 1600000 in
theorem index_node (p : NodeD → Bool) (ns : List NodeD) (A : Option Addr) (c : Nat) (w : World) (hn : IsSl Elt.node F w (.slice A ns.length c) ns) (hen : ∀ (args : Array Value) (w : World), Sem.run Try.prog (callFunc id args) w = .ok (.enter id args) w)
    (hcall : ∀ (nd : NodeD) (B : Option Addr) (d : Nat) (W : World), Below w.heap.size w W → Calls Try.prog id (#[nodeV nd B d] ++ caps) W fun e w' => e = .returned (.bool (p nd)) ∧ Below W.heap.size W w') :
    Calls Try.prog 70 #[.slice A ns.length c, .func (.func id) #[] caps] w fun e w' => (∃ r : Int, e = .returned (.int .i64 r) ∧ (0 ≤ r ↔ ∃ nd ∈ ns, p nd = true)) ∧ Below w.heap.size w w' := by
  have hl := hn.len.2
  have HC := Lib.hid hcall
  clear hcall
  go_enter Try.func70, Try.ntmps70
  go_wp2_with fail
  go_loopg [8] ns.length (fun gk i wr => ∃ q : Nat, q ≤ ns.length ∧ gk = ns.length - q ∧ i = .int .i64 q ∧ Below w.heap.size w wr ∧ Hid (∀ j (h : j < ns.length), j < q → p ns[j] = false))
  case atStart => exact ⟨0, by omega, by omega, rfl, Below.refl _ _, Lib.hid fun j _ hj => by omega⟩
  case round =>
    obtain ⟨q, hq, rfl, rfl, hb, hH⟩ := hrel
    by_cases hlt : q < ns.length
    · obtain ⟨b, o, rfl, hF, hbl, h1, h2, h3, h4, A', c', h5, -⟩ := (hn.below hb).nodeAt q hlt
      have hqz : (q : Int) < (ns.length : Int) := by omega
      have hone := HC.out ns[q] A' c' wr hb
      unfold nodeV at hone
      have HONE := Lib.hid hone
      clear hone
      cases hp : p ns[q]
      · have hH2 : Hid (∀ j (h : j < ns.length), j < q + 1 → p ns[j] = false) := Lib.hid fun j h hj => by
          by_cases e : j = q
          · subst e; exact hp
          · exact hH.out j h (by omega)
        rw [hp] at HONE
        clear hp
        generalize ns[q] = nd at h1 h2 h3 h4 h5 HONE
        go_wp2_with fail
        refine HONE.out.mono ?_
        rintro e w' ⟨rfl, hb2⟩
        go_wp2_with fail
        go_roundg (ns.length - (q + 1))
        case measure => omega
        case rel => exact ⟨q + 1, by omega, rfl, by go_num, hb.trans (hb2.mono hb.size), hH2⟩
      · have hex : ∃ nd ∈ ns, p nd = true := ⟨ns[q], List.getElem_mem hlt, hp⟩
        have HEX := Lib.hid hex
        rw [hp] at HONE
        clear hp hex
        generalize ns[q] = nd at h1 h2 h3 h4 h5 HONE
        go_wp2_with fail
        refine HONE.out.mono ?_
        rintro e w' ⟨rfl, hb2⟩
        go_wp2_with fail
        go_ret
        exact ⟨⟨_, rfl, fun _ => HEX.out, fun _ => by omega⟩, hb.trans (hb2.mono hb.size)⟩
    · obtain rfl : q = ns.length := by omega
      have hno : ¬ ∃ nd ∈ ns, p nd = true := fun ⟨nd, hnd, hp⟩ => by
        obtain ⟨j, hj, rfl⟩ := List.getElem_of_mem hnd
        rw [hH.out j hj hj] at hp
        cases hp
      have HNO := Lib.hid hno
      clear hno
      go_wp2_with fail
      go_ret
      exact ⟨⟨_, rfl, fun h => by simp at h, fun h => absurd h HNO.out⟩, hb⟩

set_option maxRecDepth 100000 in
theorem contains_node (p : NodeD → Bool) (ns : List NodeD) (A : Option Addr) (c : Nat) (w : World) (hn : IsSl Elt.node F w (.slice A ns.length c) ns) (hen : ∀ (args : Array Value) (w : World), Sem.run Try.prog (callFunc id args) w = .ok (.enter id args) w)
    (hcall : ∀ (nd : NodeD) (B : Option Addr) (d : Nat) (W : World), Below w.heap.size w W → Calls Try.prog id (#[nodeV nd B d] ++ caps) W fun e w' => e = .returned (.bool (p nd)) ∧ Below W.heap.size W w') (hex : ∃ nd ∈ ns, p nd = true) :
    Calls Try.prog 25 #[.slice A ns.length c, .func (.func id) #[] caps] w fun e w' => e = .returned (.bool true) ∧ Below w.heap.size w w' := by
  have hi := index_node p ns A c w hn hen hcall
  have HEX := Lib.hid hex
  clear hcall hex
  go_enter Try.func25, Try.ntmps25
  go_wp2_with fail
  refine hi.mono ?_
  rintro e w' ⟨⟨r, rfl, hr⟩, hb⟩
  have h0 : 0 ≤ r := hr.2 HEX.out
  clear hr
  go_wp2_with fail
  go_ret
  exact ⟨ret_bool (by simp), hb⟩
end

set_option maxRecDepth 100000 in
set_option maxHeartbeats 1600000 in
/-- the closure of ForestLess: the same part, and no fewer packs -/
theorem lessNode_any (nd m : NodeD) (A : Option Addr) (c bn : Nat) (B : Option Addr) (d : Nat) (w : World) (hn : w.heap[bn]? = some (.cells #[.bool nd.y.t, .int .i64 nd.y.n, .int .i64 nd.i, .int .i64 nd.j, .slice B nd.packs.length d] 40 (0, 0))) :
    Calls Try.prog 31 #[nodeV m A c, .pointer (some ⟨bn, 0, none⟩)] w fun e w' => e = .returned (.bool (decide (m.y = nd.y ∧ m.i = nd.i ∧ m.j = nd.j ∧ nd.packs.length ≤ m.packs.length))) ∧ Below w.heap.size w w' := by
  have hbl := blk_lt hn
  have n0 := blk_cell hn (i := 0) rfl
  have n1 := blk_cell hn (i := 1) rfl
  have n2 := blk_cell hn (i := 2) rfl
  have n3 := blk_cell hn (i := 3) rfl
  have n4 := blk_cell hn (i := 4) rfl
  have hB : ∀ o, Below w.heap.size w (w.alloc o) := below1 w
  have fin : ∀ b : Bool, decide (m.y = nd.y ∧ m.i = nd.i ∧ m.j = nd.j ∧ nd.packs.length ≤ m.packs.length) = b → ∀ o, (Ending.returned (.bool b) = Ending.returned (.bool (decide (m.y = nd.y ∧ m.i = nd.i ∧ m.j = nd.j ∧ nd.packs.length ≤ m.packs.length)))) ∧ Below w.heap.size w (w.alloc o) := fun b h o => ⟨by rw [h], hB o⟩
  obtain ⟨⟨mt, mn⟩, mi, mj, mp⟩ := m
  obtain ⟨⟨nt, nn⟩, ni, nj, np⟩ := nd
  unfold nodeV
  simp only at n0 n1 n2 n3 n4 fin ⊢
  generalize mp.length = ml at fin ⊢
  generalize np.length = nl at fin n4 hn ⊢
  by_cases h1 : mt = nt
  · subst h1
    by_cases h2 : mn = nn
    · subst h2
      by_cases h3 : mi = ni
      · subst h3
        by_cases h4 : mj = nj
        · subst h4
          have HF := Lib.hid (fin (decide (nl ≤ ml)) (decide_eq_decide.2 ⟨fun h => h.2.2.2, fun h => ⟨rfl, rfl, rfl, h⟩⟩))
          have HB := Lib.hid hB; clear fin hB
          go_enter Try.func31, Try.ntmps31
          go_wp2_with fail
          go_ret
          first | exact ⟨rfl, HB.out _⟩ | exact HF.out _
        · have h4a : ((mj : Int) == (nj : Int)) = false := by simp; omega
          have h4b : (mj == nj) = false := by simp [h4]
          have HF := Lib.hid (fin false (decide_eq_false fun h => h4 h.2.2.1))
          have HB := Lib.hid hB; clear fin hB
          go_enter Try.func31, Try.ntmps31
          go_wp2_with fail
          go_ret
          first | exact ⟨rfl, HB.out _⟩ | exact HF.out _
      · have h3a : ((mi : Int) == (ni : Int)) = false := by simp; omega
        have h3b : (mi == ni) = false := by simp [h3]
        have HF := Lib.hid (fin false (decide_eq_false fun h => h3 h.2.1))
        have HB := Lib.hid hB; clear fin hB
        go_enter Try.func31, Try.ntmps31
        go_wp2_with fail
        go_ret
        first | exact ⟨rfl, HB.out _⟩ | exact HF.out _
    · have HF := Lib.hid (fin false (decide_eq_false fun h => h2 (by have := congrArg Sym.n h.1; exact this)))
      have HB := Lib.hid hB; clear fin hB
      go_enter Try.func31, Try.ntmps31
      go_wp2_with fail
      go_ret
      first | exact ⟨rfl, HB.out _⟩ | exact HF.out _
  · have HF := Lib.hid (fin false (decide_eq_false fun h => h1 (by have := congrArg Sym.t h.1; exact this)))
    have HB := Lib.hid hB; clear fin hB
    go_enter Try.func31, Try.ntmps31
    go_wp2_with fail
    go_ret
    first | exact ⟨rfl, HB.out _⟩ | exact HF.out _
end Go.Proofs.Ytdbkbkopcnkgcaa

open Go Go.RowKit
namespace Go.Proofs.Ytdbkbkopcnkgcaa

/-! ### parlkeep3.packs, and the closure of ForestMirrored -/
theorem made_packs {g : Gram} {x : List Int} {M : List (List Nat)} (hs : Small g) (hx : x.length ≤ 8) : ((madeF g x M).1.nodes.map fun n => n.packs.length).sum ≤ maxPacks := by
  cases h : (entry M g.start 0).testBit x.length
  · rw [made_empty h]; simp
  · obtain ⟨s, h1, h2⟩ := made_small hs hx h
    rw [h2]
    simp only [forestF, List.map_map]
    have hkey : ∀ p, p ∈ keysF s ↔ p ∈ keysR s := fun p => mem_keysF
    have e : (keysF s).map ((fun n : NodeD => n.packs.length) ∘ nodeF (keysF s) s) = (keysF s).map fun q => (waysU g x M q).length :=
      List.map_congr_left fun p hp => by
        have hr := (h1.keys p).1 (mem_keysF.1 hp)
        show (nodeF (keysF s) s p).packs.length = _
        unfold nodeF; rw [h1.look p hr]; simp
    rw [e]
    refine packs_few hs (by unfold keysF; exact (List.mergeSort_perm _ _).nodup_iff.2 h1.nodup) fun p hp => ?_
    obtain ⟨_, _, h3, h4⟩ := of_partsF (h1.ok p ((h1.keys p).1 (mem_keysF.1 hp)))
    omega

theorem sum_take_le : ∀ (l : List Nat) (k : Nat), (l.take k).sum ≤ l.sum
  | [], k => by simp
  | a :: l, 0 => by simp
  | a :: l, k + 1 => by simp [sum_take_le l k]
theorem sum_take_succ : ∀ (l : List Nat) (k : Nat) (h : k < l.length), (l.take (k + 1)).sum = (l.take k).sum + l[k]
  | [], k, h => by simp at h
  | a :: l, 0, h => by simp
  | a :: l, k + 1, h => by
    rw [List.take_succ_cons, List.take_succ_cons, List.sum_cons, List.sum_cons, sum_take_succ l k (by simpa using h), List.getElem_cons_succ, Nat.add_assoc]

set_option maxRecDepth 100000 in
set_option maxHeartbeats 800000 in
theorem packs_any (F : Nat → Prop) (ns : List NodeD) (root : Int) (A : Option Addr) (c : Nat) (w : World) (hn : IsSl Elt.node F w (.slice A ns.length c) ns) (hs : (ns.map fun n => n.packs.length).sum ≤ 1000000) :
    Calls Try.prog 24 #[.agg #[.slice A ns.length c, .int .i64 root]] w fun e w' => e = .returned (.int .i64 ((ns.map fun n => n.packs.length).sum : Nat)) ∧ Below w.heap.size w w' := by
  have hl := hn.len.2
  have hb0 := below1 w (.cells #[.slice A ns.length c, .int .i64 root] 30)
  have g0 := heap_alloc_new w (.cells #[.slice A ns.length c, .int .i64 root] 30)
  have k0 := blk_cell g0 (i := 0) rfl
  have HN := Lib.hid (hn.below hb0)
  obtain ⟨f, hf⟩ : ∃ f : List Nat, f = ns.map fun n => n.packs.length := ⟨_, rfl⟩
  rw [← hf] at hs ⊢
  have hfl : f.length = ns.length := by rw [hf]; simp
  have HF := Lib.hid hf
  clear hf hn
  go_enter Try.func24, Try.ntmps24
  go_wp2_with fail
  clear k0 g0
  generalize w.alloc (.cells #[.slice A ns.length c, .int .i64 root] 30) = w0 at hb0 HN ⊢
  go_loopg [3, 9] ns.length (fun gk sv iv wr => ∃ k : Nat, k ≤ ns.length ∧ gk = ns.length - k ∧ sv = .int .i64 ((f.take k).sum : Nat) ∧ iv = .int .i64 k ∧ Below w0.heap.size w0 wr)
  case atStart => exact ⟨0, by omega, by omega, by simp, rfl, Below.refl _ _⟩
  case round =>
    obtain ⟨k, hk, rfl, rfl, rfl, hb⟩ := hrel
    by_cases hlt : k < ns.length
    · obtain ⟨b5, o5, rfl, _, _, c0, c1, c2, c3, A5, c5, c4, _⟩ := (HN.out.below hb).nodeAt k hlt
      have hkz : (k : Int) < (ns.length : Int) := by omega
      have hsu := sum_take_succ f k (by omega)
      have hfk : f[k]'(by omega) = ns[k].packs.length := by have := HF.out; subst this; simp
      rw [hfk] at hsu
      have hle := sum_take_le f (k + 1)
      rw [hsu] at hle
      generalize ns[k] = nd at c0 c1 c2 c3 c4 hsu hle hfk
      have hbB := below1 wr (.cells #[.bool nd.y.t, .int .i64 nd.y.n, .int .i64 nd.i, .int .i64 nd.j, .slice A5 nd.packs.length c5] 40)
      have hadd : IntKind.i64.wrap (((f.take k).sum : Int) + (nd.packs.length : Int)) = ((f.take k).sum : Int) + (nd.packs.length : Int) := IntWalk.i64_in _ (by omega)
      have HS := Lib.hid hsu
      have hb2 := hb.trans (hbB.mono hb.size)
      clear hsu hfk
      generalize (f.take k).sum = sm at hadd HS hle
      go_wp2_with fail
      go_roundg (ns.length - (k + 1))
      case measure => omega
      case rel => exact ⟨k + 1, by omega, rfl, by rw [HS.out]; simp, by go_num, hb2⟩
    · obtain rfl : k = ns.length := by omega
      have hfin : (f.take ns.length).sum = f.sum := by rw [← hfl, List.take_length]
      rw [hfin]
      have HFIN := Lib.hid hfin
      clear hfin
      go_wp2_with fail
      go_ret
      exact ⟨rfl, hb0.trans (hb.mono hb0.size)⟩

set_option maxRecDepth 100000 in
set_option maxHeartbeats 3200000 in
/-- the closure: the mirrored part, and as many packs -/
theorem mirNode_any (nd m : NodeD) (A : Option Addr) (c bn bw : Nat) (B : Option Addr) (d : Nat) (C : Option Addr) (ln cc : Nat) (w : World) (hn : w.heap[bn]? = some (.cells #[.bool nd.y.t, .int .i64 nd.y.n, .int .i64 nd.i, .int .i64 nd.j, .slice B nd.packs.length d] 40 (0, 0))) (hw : w.heap[bw]? = some (.cells #[.slice C ln cc] 22 (0, 0))) (h12 : ln ≤ 12) (hi : nd.i ≤ ln) (hj : nd.j ≤ ln) :
    Calls Try.prog 26 #[nodeV m A c, .pointer (some ⟨bn, 0, none⟩), .pointer (some ⟨bw, 0, none⟩)] w fun e w' => e = .returned (.bool (decide (m.y = nd.y ∧ m.i = ln - nd.j ∧ m.j = ln - nd.i ∧ m.packs.length = nd.packs.length))) ∧ Below w.heap.size w w' := by
  have hbl := blk_lt hn
  have hbw := blk_lt hw
  have n0 := blk_cell hn (i := 0) rfl
  have n1 := blk_cell hn (i := 1) rfl
  have n2 := blk_cell hn (i := 2) rfl
  have n3 := blk_cell hn (i := 3) rfl
  have n4 := blk_cell hn (i := 4) rfl
  have w0 := blk_cell hw (i := 0) rfl
  have hB : ∀ o, Below w.heap.size w (w.alloc o) := below1 w
  have fin : ∀ b : Bool, decide (m.y = nd.y ∧ m.i = ln - nd.j ∧ m.j = ln - nd.i ∧ m.packs.length = nd.packs.length) = b → ∀ o, (Ending.returned (.bool b) = Ending.returned (.bool (decide (m.y = nd.y ∧ m.i = ln - nd.j ∧ m.j = ln - nd.i ∧ m.packs.length = nd.packs.length)))) ∧ Below w.heap.size w (w.alloc o) := fun b h o => ⟨by rw [h], hB o⟩
  obtain ⟨⟨mt, mn⟩, mi, mj, mp⟩ := m
  obtain ⟨⟨nt, nn⟩, ni, nj, np⟩ := nd
  unfold nodeV
  simp only at n0 n1 n2 n3 n4 fin hi hj ⊢
  generalize mp.length = ml at fin ⊢
  generalize np.length = nl at fin n4 hn ⊢
  have s1 : IntKind.i64.wrap ((ln : Int) - (nj : Int)) = (ln : Int) - (nj : Int) := IntWalk.i64_in _ (by omega)
  have s2 : IntKind.i64.wrap ((ln : Int) - (ni : Int)) = (ln : Int) - (ni : Int) := IntWalk.i64_in _ (by omega)
  have e1 : (ln : Int) - (nj : Int) = ((ln - nj : Nat) : Int) := by omega
  have e2 : (ln : Int) - (ni : Int) = ((ln - ni : Nat) : Int) := by omega
  rw [e1] at s1
  rw [e2] at s2
  generalize ln - nj = a at fin s1 e1 ⊢
  generalize ln - ni = b at fin s2 e2 ⊢
  have HB := Lib.hid hB
  by_cases h1 : mt = nt
  · subst h1
    by_cases h2 : mn = nn
    · subst h2
      by_cases h3 : mi = a
      · subst h3
        by_cases h4 : mj = b
        · subst h4
          by_cases h5 : ml = nl
          · subst h5
            have HF := Lib.hid (fin true (decide_eq_true ⟨rfl, rfl, rfl, rfl⟩))
            clear fin hB
            go_enter Try.func26, Try.ntmps26
            go_wp2_with fail
            go_ret
            first | exact ⟨rfl, HB.out _⟩ | exact HF.out _
          · have h5a : ((ml : Int) == (nl : Int)) = false := beq_eq_false_iff_ne.2 (by omega)
            have h5b : (ml == nl) = false := by simp [h5]
            have HF := Lib.hid (fin false (decide_eq_false fun h => h5 h.2.2.2))
            clear fin hB
            go_enter Try.func26, Try.ntmps26
            go_wp2_with fail
            go_ret
            first | exact ⟨rfl, HB.out _⟩ | exact HF.out _
        · have h4a : ((mj : Int) == (b : Int)) = false := beq_eq_false_iff_ne.2 (by omega)
          have h4b : (mj == b) = false := by simp [h4]
          have HF := Lib.hid (fin false (decide_eq_false fun h => h4 h.2.2.1))
          clear fin hB
          go_enter Try.func26, Try.ntmps26
          go_wp2_with fail
          go_ret
          first | exact ⟨rfl, HB.out _⟩ | exact HF.out _
      · have h3a : ((mi : Int) == (a : Int)) = false := beq_eq_false_iff_ne.2 (by omega)
        have h3b : (mi == a) = false := by simp [h3]
        have HF := Lib.hid (fin false (decide_eq_false fun h => h3 h.2.1))
        clear fin hB
        go_enter Try.func26, Try.ntmps26
        go_wp2_with fail
        go_ret
        first | exact ⟨rfl, HB.out _⟩ | exact HF.out _
    · have HF := Lib.hid (fin false (decide_eq_false fun h => h2 (by have := congrArg Sym.n h.1; exact this)))
      clear fin hB
      go_enter Try.func26, Try.ntmps26
      go_wp2_with fail
      go_ret
      first | exact ⟨rfl, HB.out _⟩ | exact HF.out _
  · have HF := Lib.hid (fin false (decide_eq_false fun h => h1 (by have := congrArg Sym.t h.1; exact this)))
    clear fin hB
    go_enter Try.func26, Try.ntmps26
    go_wp2_with fail
    go_ret
    first | exact ⟨rfl, HB.out _⟩ | exact HF.out _
end Go.Proofs.Ytdbkbkopcnkgcaa
