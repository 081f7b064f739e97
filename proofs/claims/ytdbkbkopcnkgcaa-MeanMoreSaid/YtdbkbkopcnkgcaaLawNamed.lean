import Derived.Test.YtdbkbkopcnkgcaaTreeL
import Derived.Test.YtdbkbkopcnkgcaaMeanR
open Go Go.RowKit
namespace Go.Proofs.Ytdbkbkopcnkgcaa

/-! ### the law MeanNamed, over the fact means() -/
/-- the left side of one rule is written anew -/
theorem RulesAt.left {w : World} {base b n c : Nat} {l : List Rule} {xs : List Value} (h : RulesAt w base (.slice (some ⟨b, 0, none⟩) n c) l xs) {q : Nat} (hq : q < l.length) (v : Int) : RulesAt (w.setCell ⟨b, q * 2, none⟩ (.int .i64 v)) base (.slice (some ⟨b, 0, none⟩) n c) (l.set q ⟨v, l[q].r⟩) (xs.set (q * 2) (.int .i64 v)) := by
  obtain ⟨A0, c0, e0⟩ := own_form h.own
  injection e0 with e1 e2 e3
  subst e2
  have hxl := h.own.1
  refine ⟨by rw [List.length_set]; exact (h.own.stored (q * 2) _).1, fun k hk => ?_, fun i j hij hj b' h1 h2 => ?_⟩
  · rw [List.length_set] at hk
    obtain ⟨h1, A, c', h2, h3, h4⟩ := h.at_ k hk
    have h4' : (A = none ∧ l[k].r = [] ∧ c' = 0) ∨ ∃ b', A = some ⟨b', 0, none⟩ ∧ base ≤ b' ∧ SymsAt (w.setCell ⟨b, q * 2, none⟩ (.int .i64 v)) b' l[k].r := by
      rcases h4 with h4 | ⟨b', e, hb, h4⟩
      · exact .inl h4
      · exact .inr ⟨b', e, hb, h4.same (heap_set_ne (fun e2 => syms_ne_rules h.own h4 (by rw [e2]; rfl)) _ _)⟩
    have hr : (l.set q ⟨v, l[q].r⟩)[k].r = l[k].r := by
      rw [List.getElem_set]
      by_cases e : q = k
      · subst e; simp
      · simp [e]
    refine ⟨?_, A, c', ?_, by rw [hr]; exact h3, by rw [hr]; exact h4'⟩
    · rw [List.getElem?_set, List.getElem_set]
      by_cases e : q = k
      · subst e
        rw [if_pos rfl, if_pos (by omega), if_pos rfl]
      · rw [if_neg (by omega), if_neg e]; exact h1
    · rw [List.getElem?_set, if_neg (by omega), hr]; exact h2
  · rw [List.length_set] at hj
    rw [List.getD_eq_getElem?_getD, List.getElem?_set, if_neg (by omega), ← List.getD_eq_getElem?_getD] at h1 h2
    exact h.dist i j hij hj b' h1 h2

def turnF (k N n : Int) : Int := (n + k) % N
theorem turn_ok {k N : Int} (h0 : 0 ≤ k) (h1 : k < N) : Turn (turnF k N) N := by
  refine ⟨fun a b ha ha2 hb hb2 e => ?_, fun a _ _ => Int.emod_nonneg _ (by omega), fun a _ _ => Int.emod_lt_of_pos _ (by omega)⟩
  unfold turnF at e
  by_cases c1 : a + k < N
  · by_cases c2 : b + k < N
    · rw [Int.emod_eq_of_lt (by omega) c1, Int.emod_eq_of_lt (by omega) c2] at e; omega
    · rw [Int.emod_eq_of_lt (by omega) c1, ← Int.sub_emod_right, Int.emod_eq_of_lt (by omega) (by omega)] at e; omega
  · by_cases c2 : b + k < N
    · rw [Int.emod_eq_of_lt (a := b + k) (by omega) c2, ← Int.sub_emod_right, Int.emod_eq_of_lt (by omega) (by omega)] at e; omega
    · rw [← Int.sub_emod_right, ← Int.sub_emod_right (b + k), Int.emod_eq_of_lt (by omega) (by omega), Int.emod_eq_of_lt (by omega) (by omega)] at e; omega

set_option maxRecDepth 100000 in
theorem named_any (k N n : Int) (bk bg : Nat) (w : World) (hk : w.cell? ⟨bk, 0, none⟩ = some (.int .i64 k)) (hg : w.cell? ⟨bg, 1, none⟩ = some (.int .i64 N)) (h0 : 0 ≤ k) (h1 : k < N) (hN : N ≤ 10) (hn : 0 ≤ n) (hn2 : n < N) :
    Calls Try.prog 42 #[.int .i64 n, .pointer (some ⟨bk, 0, none⟩), .pointer (some ⟨bg, 0, none⟩)] w fun e w' => e = .returned (.int .i64 (turnF k N n)) ∧ w' = w := by
  have hadd : IntKind.i64.wrap (n + k) = n + k := IntWalk.i64_in _ (by omega)
  have hrem : Int.tmod (n + k) N = turnF k N n := by unfold turnF; rw [Int.tmod_eq_emod_of_nonneg (by omega)]
  have hlo : 0 ≤ turnF k N n := Int.emod_nonneg _ (by omega)
  have hhi : turnF k N n < N := Int.emod_lt_of_pos _ (by omega)
  have hne : ¬ N = 0 := by omega
  have hpos : 0 < N := by omega
  have hneb : (N == 0) = false := beq_eq_false_iff_ne.2 hne
  generalize turnF k N n = t at hrem hlo hhi ⊢
  go_enter Try.func42, Try.ntmps42
  go_wp2_with fail
  go_ret
  exact ⟨rfl, rfl⟩

theorem SymsAt.setN {w : World} {b : Nat} {L : List Sym} (h : SymsAt w b L) {z : Nat} (hz : z < L.length) (v : Int) : SymsAt (w.setCell ⟨b, z * 2 + 1, none⟩ (.int .i64 v)) b (L.set z ⟨L[z].t, v⟩) := by
  obtain ⟨cs, h1, h2⟩ := h
  refine ⟨_, heap_set h1 _ _, fun x hx => ?_⟩
  rw [List.length_set] at hx
  obtain ⟨k1, k2⟩ := h2 x hx
  have l1 : x * 2 < cs.size := (Array.getElem?_eq_some_iff.1 k1).1
  have l2 : x * 2 + 1 < cs.size := (Array.getElem?_eq_some_iff.1 k2).1
  rw [List.getElem_set]
  simp only [Array.getElem?_setIfInBounds]
  by_cases e : z = x
  · subst e
    rw [if_pos rfl, if_neg (by omega), if_pos rfl, if_pos l2]
    exact ⟨k1, rfl⟩
  · rw [if_neg e, if_neg (by omega), if_neg (by omega)]
    exact ⟨k1, k2⟩
section
variable {α : Type}
def mapQ (f : α → α) (l : List α) (q : Nat) : List α := (l.take q).map f ++ l.drop q
theorem mapQ_len {f : α → α} {l : List α} {q : Nat} (h : q ≤ l.length) : (mapQ f l q).length = l.length := by unfold mapQ; simp; omega
theorem mapQ_get {f : α → α} {l : List α} {q : Nat} (h : q < l.length) : (mapQ f l q)[q]'(by rw [mapQ_len (by omega)]; exact h) = l[q] := by
  unfold mapQ
  rw [List.getElem_append_right (by simp; omega)]
  simp [Nat.min_eq_left (Nat.le_of_lt h)]
theorem mapQ_set {f : α → α} {l : List α} {q : Nat} (h : q < l.length) : (mapQ f l q).set q (f l[q]) = mapQ f l (q + 1) := by
  unfold mapQ
  rw [List.set_append_right _ _ (by simp; omega)]
  have e : q - ((l.take q).map f).length = 0 := by simp; omega
  rw [e, List.drop_eq_getElem_cons h, List.set_cons_zero, List.take_succ_eq_append_getElem h, List.map_append]
  simp
theorem mapQ_zero {f : α → α} {l : List α} : mapQ f l 0 = l := by unfold mapQ; simp
theorem mapQ_all {f : α → α} {l : List α} : mapQ f l l.length = l.map f := by unfold mapQ; simp
theorem mapQ_id {f : α → α} {l : List α} {q : Nat} (h : q < l.length) (e : f l[q] = l[q]) : mapQ f l (q + 1) = mapQ f l q := by
  rw [← mapQ_set h, e]
  have h2 : (mapQ f l q).set q l[q] = (mapQ f l q).set q ((mapQ f l q)[q]'(by rw [mapQ_len (by omega)]; exact h)) := by rw [mapQ_get h]
  exact h2.trans (List.set_getElem_self _)
end

set_option maxRecDepth 100000 in
set_option maxHeartbeats 6400000 in
theorem meanNamed_any (hme : MeansOk) (F F2 : Nat → Prop) (l l2 : List Int) (A : Option Addr) (n c : Nat) (A2 : Option Addr) (n2 c2' : Nat) (turn : Int) (w : World) (hl : IsSl Elt.int F w (.slice A n c) l) (hl2 : IsSl Elt.int F2 w (.slice A2 n2 c2') l2) (hnc : n ≤ c) :
    Calls Try.prog 11 #[.slice A n c, .slice A2 n2 c2', .int .i64 turn] w fun e w' => e = .returned (.bool true) ∧ Below w.heap.size w w' := by
  have HME := Lib.hid hme
  clear hme
  go_enter Try.func11, Try.ntmps11
  go_wp2_with fail
  refine (made_any F F2 l l2 A n c A2 n2 c2' 6 _ hl hl2 hnc (by decide)).mono ?_
  rintro e1 w1 ⟨g, A', c', x, C, cx, rfl, hM⟩
  have hv := hM.small.valid
  have hx6 := hM.most
  have hcap := hM.cap
  have hcx := hM.capx
  have hr1 := hM.small.r1
  have hok : OkWord g x := hM.terms
  have hw1 := hM.below
  have hbA := below1 w1 (.cells #[.int .i64 g.terms, .int .i64 g.nons, .int .i64 g.start, .slice A' g.rules.length c'] 25)
  have gg := heap_alloc_new w1 (.cells #[.int .i64 g.terms, .int .i64 g.nons, .int .i64 g.start, .slice A' g.rules.length c'] 25)
  have hrA := (hM.rules.below hbA).weak (G := fun _ => True) fun _ _ => trivial
  have hxA := (hM.word.below hbA).weak (G := fun _ => True) fun _ _ => trivial
  have hwA := hw1.trans (hbA.mono hw1.size)
  unfold gramV
  clear hM hl hl2 hw1 hbA
  have hn1 := hv.n1
  have hn10 := hv.n10
  have hbel := below_int turn g.nons (w1.alloc (.cells #[.int .i64 g.terms, .int .i64 g.nons, .int .i64 g.start, .slice A' g.rules.length c'] 25)) (by omega)
  have hk0 := Int.emod_nonneg turn (show g.nons ≠ 0 by omega)
  have hk1 := Int.emod_lt_of_pos turn (show 0 < g.nons by omega)
  generalize turn % g.nons = kz at hbel hk0 hk1
  have k1 := blk_cell gg (i := 1) rfl
  go_wp2_with fail
  generalize w1.alloc (.cells #[.int .i64 g.terms, .int .i64 g.nons, .int .i64 g.start, .slice A' g.rules.length c'] 25) = w2 at hwA gg hrA hxA hbel k1 ⊢
  generalize w1.heap.size = bg at gg k1 ⊢
  refine hbel.mono ?_
  rintro e2 w2' ⟨rfl, rfl⟩
  clear hbel k1
  -- the box of k
  have hb3 := below1 w2' (.cells #[.int .i64 kz] 3)
  have gk := heap_alloc_new w2' (.cells #[.int .i64 kz] 3)
  have gg3 := blk_below hb3 (blk_lt gg) gg
  have hr3 := hrA.below hb3
  have hx3 := hxA.below hb3
  have hw3 := hwA.trans (hb3.mono hwA.size)
  have hcp := copyOf_dist _ g A' c' _ hr3 hv
  have k0 := blk_cell gg3 (i := 0) rfl
  have k1 := blk_cell gg3 (i := 1) rfl
  have k2 := blk_cell gg3 (i := 2) rfl
  have k3 := blk_cell gg3 (i := 3) rfl
  unfold gramV at hcp
  clear gg hrA hxA hwA hb3
  go_wp2_with fail
  generalize w2'.alloc (.cells #[.int .i64 kz] 3) = w3 at gk gg3 hr3 hx3 hw3 hcp k0 k1 k2 k3 ⊢
  generalize w2'.heap.size = bk at gk ⊢
  refine hcp.mono ?_
  rintro e4 w4 ⟨A4, c2, rfl, hb4, hcap4, -, xs, hO, hD⟩
  have hR := RulesAt.ofOwn hO hD
  have hbase4 : w3.heap.size + 3 ≤ w4.heap.size := by
    obtain ⟨b, cap, _, h1, h2⟩ := hR.own.form (by omega : 0 < g.rules.length)
    omega
  have hgl := blk_lt gg3
  have hkl := blk_lt gk
  have gg4 := blk_below hb4 hgl gg3
  have gk4 := blk_below hb4 hkl gk
  have hr4 := (hr3.old.weak (G := fun b => b < w3.heap.size) fun b hb => hb.2).keep (fun b hb => hb4.block b hb) hb4.size
  have hx4 := (hx3.old.weak (G := fun b => b < w3.heap.size) fun b hb => hb.2).keep (fun b hb => hb4.block b hb) hb4.size
  have hw4 := hw3.trans (hb4.mono hw3.size)
  have hwz := hw3.size
  have hbX := below1 w4 (.cells #[.int .i64 g.terms, .int .i64 g.nons, .int .i64 g.start, .slice A4 g.rules.length c2] 25)
  have gh := heap_alloc_new w4 (.cells #[.int .i64 g.terms, .int .i64 g.nons, .int .i64 g.start, .slice A4 g.rules.length c2] 25)
  have gg5 := blk_below hbX (blk_lt gg4) gg4
  have gk5 := blk_below hbX (blk_lt gk4) gk4
  have hR5 := hR.below hbX
  have hr5 := hr4.below hbX
  have hx5 := hx4.below hbX
  have hw5 := hw4.trans (hbX.mono hw4.size)
  have hs4 := hb4.size
  have hen : ∀ args w, (callFunc 42 args).run Try.prog w = .ok (.enter 42 args) w := enters_of Try.func42 (by kernel_rfl) rfl
  clear hcp k0 k1 k2 k3 hO hD hR gg3 gk hr3 hx3 hw3 gg4 gk4 hr4 hx4 hw4 hbX hb4
  have k1 := blk_cell gg5 (i := 1) rfl
  have k2 := blk_cell gg5 (i := 2) rfl
  have kk := blk_cell gk5 (i := 0) rfl
  go_wp2_with fail
  generalize w4.alloc (.cells #[.int .i64 g.terms, .int .i64 g.nons, .int .i64 g.start, .slice A4 g.rules.length c2] 25) = w5 at gh gg5 gk5 hR5 hr5 hx5 hw5 k1 k2 kk ⊢
  generalize w4.heap.size = bh at gh hs4 hbase4 ⊢
  refine (named_any kz g.nons g.start bk bg _ kk k1 hk0 hk1 hn10 hv.s0 hv.s1).mono ?_
  rintro e6 w6 ⟨rfl, rfl⟩
  have hfh : w6.frozen? ⟨bh, 2, none⟩ = false := blk_free gh
  have hh2 := blk_cell gh (i := 2) rfl
  have hh3 := blk_cell gh (i := 3) rfl
  clear k1 k2 kk
  obtain ⟨bR, cR, heR, hbR, -⟩ := hR5.own.form (by omega : 0 < g.rules.length)
  injection heR with heR1 heR2 heR3
  subst heR1
  subst heR3
  clear heR2
  obtain ⟨φ, hφ⟩ : ∃ φ, φ = turnF kz g.nons := ⟨_, rfl⟩
  have hturn : Turn φ g.nons := by rw [hφ]; exact turn_ok hk0 hk1
  rw [← hφ]
  have gh2 := heap_set gh 2 (.int .i64 (φ g.start))
  have m3 := blk_cell gh2 (i := 3) rfl
  have hbhl := blk_lt gh
  obtain ⟨W, hW⟩ : ∃ W : World, W = w6.setCell ⟨bh, 2, none⟩ (.int .i64 (φ g.start)) := ⟨_, rfl⟩
  have hRb : ∀ {w : World} {b : Nat} {cs : Array Value} {T : TypeId} {l : List Rule} {xs : List Value} {n c : Nat}, RulesAt w (w3.heap.size + 3) (.slice (some ⟨bR, 0, none⟩) n c) l xs → w.heap[b]? = some (.cells cs T (0, 0)) → T ≠ 47 → b ≠ bR := fun h1 h2 h3 e => h3 (own_type h1.own (by rw [e]; rfl) h2)
  have hbhb : w3.heap.size + 3 ≤ bh := by omega
  have hg6 : W.heap[bg]? = w6.heap[bg]? := by rw [hW]; exact heap_set_ne (by omega) _ _
  have hk6 : W.heap[bk]? = w6.heap[bk]? := by rw [hW]; exact heap_set_ne (by omega) _ _
  have hRW : RulesAt W (w3.heap.size + 3) (.slice (some ⟨bR, 0, none⟩) g.rules.length c2) (mapQ (renR φ) g.rules 0) xs := by
    rw [mapQ_zero]
    have hbr := hRb hR5 gh (by decide)
    refine ⟨own_keep hR5.own fun b hb => ?_, fun k hk => ?_, hR5.dist⟩
    · rw [hW]
      exact heap_set_ne (fun e => hbr (by rw [← e]; injection hb with hb; exact hb.symm)) _ _
    · obtain ⟨h1, A, c', h2, h3, h4⟩ := hR5.at_ k hk
      refine ⟨h1, A, c', h2, h3, ?_⟩
      rcases h4 with h4 | ⟨b', e, hb, cs, h4, h5⟩
      · exact .inl h4
      · refine .inr ⟨b', e, hb, cs, ?_, h5⟩
        rw [hW]
        exact (heap_set_ne (fun e => by rw [e, gh] at h4; injection h4 with h4; injection h4 with _ h4; exact absurd h4 (by decide)) _ _).trans h4
  have hBW : Below (w3.heap.size + 3) w6 W := by rw [hW]; exact (Below.refl _ _).setCell (p := ⟨bh, 2, none⟩) hbhb _
  rw [← hW] at gh2 m3
  have hszW : W.heap.size = w6.heap.size := by rw [hW, size_setCell]
  have hokr := hv.ok
  have HOKR := Lib.hid hokr
  have HRW := Lib.hid hRW
  have HR5 := Lib.hid hr5
  have HX5 := Lib.hid hx5
  have HV := Lib.hid hv
  have HOKW := Lib.hid hok
  have HTU := Lib.hid hturn
  have HNM := Lib.hid (fun (W' : World) (z : Int) (h1 : W'.cell? ⟨bk, 0, none⟩ = some (.int .i64 kz)) (h2 : W'.cell? ⟨bg, 1, none⟩ = some (.int .i64 g.nons)) (h3 : 0 ≤ z) (h4 : z < g.nons) => named_any kz g.nons z bk bg W' h1 h2 hk0 hk1 hn10 h3 h4)
  rw [← hφ] at HNM
  have hw3b : w3.heap.size + 3 ≤ w6.heap.size := by omega
  have hbg3 : bg < w3.heap.size + 3 := by omega
  have hbk3 : bk < w3.heap.size + 3 := by omega
  have hrl := hv.len
  have m3' := m3
  rw [hW] at m3'
  clear hRW hr5 hx5 hv hok hturn hokr hR5 gh hφ
  go_wp2_with fail
  rw [← hW]
  clear hW m3' hh2 hh3 hfh
  go_loopg [39] g.rules.length (fun gk i wr => ∃ (q : Nat) (xs : List Value), q ≤ g.rules.length ∧ gk = g.rules.length - q ∧ i = .int .i64 q ∧ RulesAt wr (w3.heap.size + 3) (.slice (some ⟨bR, 0, none⟩) g.rules.length c2) (mapQ (renR φ) g.rules q) xs ∧ Below (w3.heap.size + 3) w6 wr ∧ wr.heap[bh]? = some (.cells #[.int .i64 g.terms, .int .i64 g.nons, .int .i64 (φ g.start), .slice (some ⟨bR, 0, none⟩) g.rules.length c2] 25 (0, 0)))
  case atStart => exact ⟨0, xs, Nat.zero_le _, rfl, rfl, HRW.out, hBW, gh2⟩
  case round =>
    clear HRW hBW gh2 m3 hg6 hk6 hszW
    obtain ⟨q, xs, hq, rfl, rfl, hR, hB, ghr⟩ := hrel
    obtain ⟨WW, rfl⟩ : ∃ WW : World, WW = wr := ⟨_, rfl⟩
    have hszq := hB.size
    by_cases hlt : q < g.rules.length
    · have hqz : (q : Int) < (g.rules.length : Int) := by omega
      have hlq : q < (mapQ (renR φ) g.rules q).length := by rw [mapQ_len hq]; exact hlt
      obtain ⟨b, hA, hbb, c0, A5, c5, hx5, c1, hcase⟩ := hR.cellAt (k := q) hlq
      injection hA with hA
      injection hA with hA
      subst hA
      have hg : (mapQ (renR φ) g.rules q)[q]'hlq = g.rules[q] := mapQ_get hlt
      have hset := mapQ_set (f := renR φ) hlt
      have hok := HOKR.out g.rules[q] (List.getElem_mem hlt)
      have hleft := hR.left hlq (φ g.rules[q].l)
      rw [hg] at c0 c1 hcase hleft hx5
      generalize hrq : g.rules[q] = r at c0 c1 hcase hset hok hleft hx5
      have HL0 := Lib.hid (show 0 ≤ r.l ∧ r.l < g.nons from ⟨hok.l0, hok.l1⟩)
      have kk := (hB.cell (p := ⟨bk, 0, none⟩) hbk3).trans (blk_cell gk5 (i := 0) rfl)
      have kg := (hB.cell (p := ⟨bg, 1, none⟩) hbg3).trans (blk_cell gg5 (i := 1) rfl)
      have HTO := Lib.hid (fun (z : Int) (W' : World) (e : W' = WW.drew) (h3 : 0 ≤ z) (h4 : z < g.nons) => HNM.out W' z (by rw [e]; exact kk) (by rw [e]; exact kg) h3 h4)
      have m3 := blk_cell ghr (i := 3) rfl
      have hbhR := hRb hR ghr (by decide)
      have fR : WW.frozen? ⟨bR, q * 2, none⟩ = false := by
        obtain ⟨cs, h1⟩ : ∃ cs, WW.heap[bR]? = some (.cells cs 47 (0, 0)) := by
          rcases hR.own.2 with ⟨h1, _⟩ | ⟨g', cap, cur, h1, _, h3, _⟩
          · cases h1
          · injection h1 with h1
            injection h1 with h1
            injection h1 with h1
            subst h1
            exact ⟨cur, h3⟩
        exact blk_free h1
      have hbRb : w3.heap.size + 3 ≤ bR := hbb
      have HHR := Lib.hid hleft
      have HSET := Lib.hid hset
      have HOK := Lib.hid hok
      clear hleft hset hok hR hg
      go_wp2_with fail
      refine wp_region_any (by kernel_rfl) ?_
      change wpAny _ _ _ _ _ _ _ (World.drew _)
      refine wpAny_take (i := 0) (v := ?_) rfl (by kernel_rfl) (by kernel_rfl) (by kernel_rfl) (fun _ _ _ h => h) (Or.inl ⟨by go_simp, ?_⟩) ?_
      rotate_left
      · (intro w'; go_simp; first | done | with_reducible rfl)
      refine wpAny_take (i := 2) (v := ?_) rfl (by kernel_rfl) (by kernel_rfl) (by kernel_rfl) (fun _ _ _ h => h) (Or.inl ⟨by go_simp, ?_⟩) ?_
      rotate_left
      · (intro w'; go_simp; first | done | with_reducible rfl)
      refine wpAny_take (i := 3) (v := ?_) rfl (by kernel_rfl) (by kernel_rfl) (by kernel_rfl) (fun _ _ _ h => h) (Or.inl ⟨by go_simp, ?_⟩) ?_
      rotate_left
      · (intro w'; go_simp; first | done | with_reducible rfl)
      refine wpAny_take (i := 4) (v := ?_) rfl (by kernel_rfl) (by kernel_rfl) (by kernel_rfl) (fun _ _ _ h => h) (Or.inl ⟨by go_simp, ?_⟩) ?_
      rotate_left
      · (intro w'; go_simp; first | done | with_reducible rfl)
      refine wpAny_take (i := 6) (v := ?_) rfl (by kernel_rfl) (by kernel_rfl) (by kernel_rfl) (fun _ _ _ h => h) (Or.inl ⟨by go_simp, ?_⟩) ?_
      rotate_left
      · (intro w'; go_simp; first | done | with_reducible rfl)
      refine wpAny_of_D (S := fun w' => w' = WW.drew) (dep := 13) _ _ _ _ ?_
      refine wpAnyD_load (i := 1) (v := .slice (some ⟨bR, 0, none⟩) g.rules.length c2) [11, 12, 13] rfl (by kernel_rfl) (by kernel_rfl) (by kernel_rfl) (by kernel_rfl) (by kernel_rfl) (by kernel_rfl) (by kernel_rfl) (fun _ _ _ h => h) (by go_simp) ?_ rfl ?_
      · (intro w' hS; subst hS; go_simp)
      refine wpAnyD_load (i := 5) (v := .slice (some ⟨bR, 0, none⟩) g.rules.length c2) [7, 8, 9, 10, 13] rfl (by kernel_rfl) (by kernel_rfl) (by kernel_rfl) (by kernel_rfl) (by kernel_rfl) (by kernel_rfl) (by kernel_rfl) (fun _ _ _ h => h) (by go_simp) ?_ rfl ?_
      · (intro w' hS; subst hS; go_simp)
      refine wpAnyD_pure (i := 7) (v := ?_) [8, 9, 10, 13] rfl (by kernel_rfl) (by kernel_rfl) (by kernel_rfl) (by kernel_rfl) (by kernel_rfl) (by kernel_rfl) (by kernel_rfl) (fun _ _ _ h => h) (by go_simp) ?_ rfl ?_
      rotate_left
      · (intro w'; go_simp; first | done | with_reducible rfl)
      refine wpAnyD_pure (i := 8) (v := ?_) [9, 10, 13] rfl (by kernel_rfl) (by kernel_rfl) (by kernel_rfl) (by kernel_rfl) (by kernel_rfl) (by kernel_rfl) (by kernel_rfl) (fun _ _ _ h => h) (by go_simp) ?_ rfl ?_
      rotate_left
      · (intro w'; go_simp; first | done | with_reducible rfl)
      refine wpAnyD_load (i := 9) (v := .int .i64 r.l) [10, 13] rfl (by kernel_rfl) (by kernel_rfl) (by kernel_rfl) (by kernel_rfl) (by kernel_rfl) (by kernel_rfl) (by kernel_rfl) (fun _ _ _ h => h) (by go_simp) ?_ rfl ?_
      · (intro w' hS; subst hS; go_simp)
      refine wpAnyD_each (rs := [10]) (by kernel_rfl) (by simp) ?_
      refine EachD.cons (i := 10) (o := _) rfl (fun K hK => ?_) EachD.nil
      go_simp
      refine (HTO.out r.l _ rfl HL0.out.1 HL0.out.2).mono ?_
      rintro e7 w7 ⟨rfl, rfl⟩
      try go_simp
      refine hK _ _ (fun _ => rfl) ?_
      clear hK K
      refine wpAnyD_pure (i := 11) (v := ?_) [12, 13] rfl (by kernel_rfl) (by kernel_rfl) (by kernel_rfl) (by kernel_rfl) (by kernel_rfl) (by kernel_rfl) (by kernel_rfl) (fun _ _ _ h => h) (by go_simp) ?_ rfl ?_
      rotate_left
      · (intro w'; go_simp; first | done | with_reducible rfl)
      refine wpAnyD_pure (i := 12) (v := ?_) [13] rfl (by kernel_rfl) (by kernel_rfl) (by kernel_rfl) (by kernel_rfl) (by kernel_rfl) (by kernel_rfl) (by kernel_rfl) (fun _ _ _ h => h) (by go_simp) ?_ rfl ?_
      rotate_left
      · (intro w'; go_simp; first | done | with_reducible rfl)
      refine wpAnyD_each (rs := [13]) (by kernel_rfl) (by simp) ?_
      refine EachD.cons (i := 13) (o := _) rfl (fun K hK => ?_) EachD.nil
      go_simp
      refine hK _ _ (fun e => Bool.noConfusion (show true = false from e)) ?_
      clear hK K
      refine wpAnyD_of _ _ _ _ (by kernel_rfl) ?_
      refine wpAny_done (by kernel_rfl) ?_ _
      have hb9 : Below (w3.heap.size + 3) WW ((WW.setCell ⟨bR, q * 2, none⟩ (.int .i64 (φ r.l))).drew) := ((Below.refl _ _).setCell (p := ⟨bR, q * 2, none⟩) hbRb _).drew
      have gh9 : ((WW.setCell ⟨bR, q * 2, none⟩ (.int .i64 (φ r.l))).drew).heap[bh]? = some (.cells #[.int .i64 g.terms, .int .i64 g.nons, .int .i64 (φ g.start), .slice (some ⟨bR, 0, none⟩) g.rules.length c2] 25 (0, 0)) := (heap_set_ne hbhR _ _).trans ghr
      have hR9 : RulesAt ((WW.setCell ⟨bR, q * 2, none⟩ (.int .i64 (φ r.l))).drew) (w3.heap.size + 3) (.slice (some ⟨bR, 0, none⟩) g.rules.length c2) ((mapQ (renR φ) g.rules q).set q ⟨φ r.l, mapQ (renS φ) r.r 0⟩) (xs.set (q * 2) (.int .i64 (φ r.l))) := by
        rw [mapQ_zero]
        exact HHR.out.keep fun b hb hl => rfl
      have hxl : q * 2 + 1 < xs.length := (List.getElem?_eq_some_iff.1 hx5).1
      have hx9 : (xs.set (q * 2) (.int .i64 (φ r.l)))[q * 2 + 1]? = some (.slice A5 r.r.length c5) := by
        rw [List.getElem?_set, if_neg (by omega)]; exact hx5
      have hB9 := hB.trans hb9
      generalize xs.set (q * 2) (.int .i64 (φ r.l)) = xs2 at hR9 hx9
      generalize (WW.setCell ⟨bR, q * 2, none⟩ (.int .i64 (φ r.l))).drew = W9 at hB9 gh9 hR9 ⊢
      clear hb9 HHR hx5 hxl c0 c1 fR kk kg HTO m3 hbhR ghr hB hszq hcase WW xs
      have hlq2 : ∀ z, q < ((mapQ (renR φ) g.rules q).set q z).length := fun z => by rw [List.length_set]; exact hlq
      have hset9 : ∀ z, ((mapQ (renR φ) g.rules q).set q z)[q]'(hlq2 z) = z := fun z => List.getElem_set_self _
      have hm3 := blk_cell gh9 (i := 3) rfl
      obtain ⟨b', hA', -, d0, A6, c6, hx6, d1, -⟩ := hR9.cellAt (k := q) (hlq2 _)
      injection hA' with hA'
      injection hA' with hA'
      subst hA'
      rw [hset9] at d0 hx6 d1
      simp only [mapQ_zero] at hx6 d1
      rw [hx9] at hx6
      injection hx6 with hx6
      injection hx6 with e1 e2 e3
      subst e1
      subst e3
      clear e2 d0
      have HOK2 := HOK
      have hr4 := HOK.out.len
      have HR9 := Lib.hid hR9
      have HX9 := Lib.hid hx9
      clear hR9 hx9
      go_wp2_with fail
      clear hm3 d1
      go_loopg [62] r.r.length (fun gk i wr => ∃ j : Nat, j ≤ r.r.length ∧ gk = r.r.length - j ∧ i = .int .i64 j ∧ RulesAt wr (w3.heap.size + 3) (.slice (some ⟨bR, 0, none⟩) g.rules.length c2) ((mapQ (renR φ) g.rules q).set q ⟨φ r.l, mapQ (renS φ) r.r j⟩) xs2 ∧ Below (w3.heap.size + 3) w6 wr ∧ wr.heap[bh]? = some (.cells #[.int .i64 g.terms, .int .i64 g.nons, .int .i64 (φ g.start), .slice (some ⟨bR, 0, none⟩) g.rules.length c2] 25 (0, 0)))
      case atStart => exact ⟨0, Nat.zero_le _, rfl, rfl, HR9.out, hB9, gh9⟩
      case round =>
        clear HR9 hB9 gh9
        obtain ⟨j, hj, rfl, rfl, hR, hB, ghr⟩ := hrel
        obtain ⟨wi, rfl⟩ : ∃ wi : World, wi = wr := ⟨_, rfl⟩
        have hszq := hB.size
        by_cases hltj : j < r.r.length
        · have hjz : (j : Int) < (r.r.length : Int) := by omega
          obtain ⟨b', hA', hbRb, d0, A7, c7, hx7, d1, hcase7⟩ := hR.cellAt (k := q) (hlq2 _)
          injection hA' with hA'
          injection hA' with hA'
          subst hA'
          rw [hset9] at d0 hx7 d1 hcase7
          simp only [mapQ_len hj] at hx7 d1 hcase7
          rw [HX9.out] at hx7
          injection hx7 with hx7
          injection hx7 with e1 e2 e3
          subst e1
          subst e3
          clear e2 d0
          rcases hcase7 with ⟨_, hnil, _⟩ | ⟨b5, hA5, hb5, hsy⟩
          · exfalso
            have h0 : r.r.length = 0 := by rw [← mapQ_len (f := renS φ) hj, hnil]; rfl
            omega
          · subst hA5
            have hljm : j < (mapQ (renS φ) r.r j).length := by rw [mapQ_len hj]; exact hltj
            obtain ⟨y0, y1⟩ := hsy.cell hljm
            rw [mapQ_get hltj] at y0 y1
            have hmset := mapQ_set (f := renS φ) hltj
            have hmid := mapQ_id (f := renS φ) hltj
            have hysy := HOK.out.syms r.r[j] (List.getElem_mem hltj)
            generalize hrj : r.r[j] = y at y0 y1 hmset hmid hysy
            obtain ⟨yt, yn⟩ := y
            simp only at y0 y1
            have hyf := hsy.free (j * 2 + 1)
            obtain ⟨WW, hWW⟩ : ∃ WW : World, WW = wi.alloc (.cells #[.bool yt, .int .i64 yn] 37) := ⟨_, rfl⟩
            have hbA : Below wi.heap.size wi WW := by rw [hWW]; exact below1 wi _
            have gy : WW.heap[wi.heap.size]? = some (.cells #[.bool yt, .int .i64 yn] 37 (0, 0)) := by rw [hWW]; exact heap_alloc_new wi _
            have hR1 := hR.below hbA
            have hB1 := hB.trans (hbA.mono (by omega))
            have gh1 := blk_below hbA (blk_lt ghr) ghr
            cases yt
            · have HY0 := Lib.hid (show 0 ≤ yn ∧ yn < g.nons from ⟨hysy.n0, hysy.nn rfl⟩)
              have hsy1 : SymsAt WW b5 (mapQ (renS φ) r.r j) := hsy.same (hbA.block b5 (by obtain ⟨cs, h1, _⟩ := hsy; exact blk_lt h1))
              have kk := (hB1.cell (p := ⟨bk, 0, none⟩) hbk3).trans (blk_cell gk5 (i := 0) rfl)
              have kg := (hB1.cell (p := ⟨bg, 1, none⟩) hbg3).trans (blk_cell gg5 (i := 1) rfl)
              have HTO := Lib.hid (fun (z : Int) (W' : World) (e : W' = WW.drew) (h3 : 0 ≤ z) (h4 : z < g.nons) => HNM.out W' z (by rw [e]; exact kk) (by rw [e]; exact kg) h3 h4)
              have m3 := blk_cell gh1 (i := 3) rfl
              have m1 := cell_lift hbA d1
              have m5 := blk_cell gy (i := 1) rfl
              obtain ⟨z0, z1⟩ := hsy1.cell hljm
              have zf := hsy1.free (j * 2 + 1)
              have hren : renS φ ⟨false, yn⟩ = ⟨false, φ yn⟩ := rfl
              have hwr : RulesAt ((WW.setCell ⟨b5, j * 2 + 1, none⟩ (.int .i64 (φ yn))).drew) (w3.heap.size + 3) (.slice (some ⟨bR, 0, none⟩) g.rules.length c2) ((mapQ (renR φ) g.rules q).set q ⟨φ r.l, mapQ (renS φ) r.r (j + 1)⟩) xs2 := by
                have hs2 := hsy1.setN hljm (φ yn)
                have hte : ((mapQ (renS φ) r.r j)[j]'hljm).t = false := by rw [mapQ_get hltj, hrj]
                rw [hte, ← hren, hmset] at hs2
                have h1 := (hR1.below (w' := WW.drew) ((Below.refl _ _).drew)).write (w' := (WW.setCell ⟨b5, j * 2 + 1, none⟩ (.int .i64 (φ yn))).drew) (q := q) (b := b5) (c := _) (s' := mapQ (renS φ) r.r (j + 1)) (hlq2 _) (by rw [hset9]; simp only [mapQ_len hj]; exact HX9.out) (by rw [hset9]; exact hsy1.same rfl) (hs2.same rfl) (by rw [hset9]; simp only [mapQ_len hj, mapQ_len (show j + 1 ≤ r.r.length from hltj)]) (Away.setCell _ _ _ _ (.inl rfl))
                rw [hset9, List.set_set] at h1
                exact h1
              have hbh5 : bh ≠ b5 := fun e => by
                obtain ⟨cs, h1, _⟩ := hsy1
                rw [← e, gh1] at h1
                injection h1 with h1
                injection h1 with _ h1
                exact absurd h1 (by decide)
              have gh10 : ((WW.setCell ⟨b5, j * 2 + 1, none⟩ (.int .i64 (φ yn))).drew).heap[bh]? = _ := (heap_set_ne hbh5 _ _).trans gh1
              have hB10 : Below (w3.heap.size + 3) w6 ((WW.setCell ⟨b5, j * 2 + 1, none⟩ (.int .i64 (φ yn))).drew) := (hB1.setCell (p := ⟨b5, j * 2 + 1, none⟩) hb5 _).drew
              have HWR := Lib.hid hwr
              rw [mapQ_get hltj, hrj] at z0 z1
              simp only at z0 z1
              clear hwr hR hR1 hsy hsy1 hmset hmid hysy hB hB1 ghr hren
              go_wp2_with fail
              rw [← hWW]
              clear hWW y0 y1 d1 hyf
              refine wp_region_any (by kernel_rfl) ?_
              change wpAny _ _ _ _ _ _ _ (World.drew _)
              refine wpAny_take (i := 0) (v := ?_) rfl (by kernel_rfl) (by kernel_rfl) (by kernel_rfl) (fun _ _ _ h => h) (Or.inl ⟨by go_simp, ?_⟩) ?_
              rotate_left
              · (intro w'; go_simp; first | done | with_reducible rfl)
              refine wpAny_take (i := 2) (v := ?_) rfl (by kernel_rfl) (by kernel_rfl) (by kernel_rfl) (fun _ _ _ h => h) (Or.inl ⟨by go_simp, ?_⟩) ?_
              rotate_left
              · (intro w'; go_simp; first | done | with_reducible rfl)
              refine wpAny_take (i := 6) (v := ?_) rfl (by kernel_rfl) (by kernel_rfl) (by kernel_rfl) (fun _ _ _ h => h) (Or.inl ⟨by go_simp, ?_⟩) ?_
              rotate_left
              · (intro w'; go_simp; first | done | with_reducible rfl)
              refine wpAny_take (i := 7) (v := ?_) rfl (by kernel_rfl) (by kernel_rfl) (by kernel_rfl) (fun _ _ _ h => h) (Or.inl ⟨by go_simp, ?_⟩) ?_
              rotate_left
              · (intro w'; go_simp; first | done | with_reducible rfl)
              refine wpAny_take (i := 8) (v := ?_) rfl (by kernel_rfl) (by kernel_rfl) (by kernel_rfl) (fun _ _ _ h => h) (Or.inl ⟨by go_simp, ?_⟩) ?_
              rotate_left
              · (intro w'; go_simp; first | done | with_reducible rfl)
              refine wpAny_of_D (S := fun w' => w' = WW.drew) (dep := 13) _ _ _ _ ?_
              refine wpAnyD_load (i := 1) (v := .slice (some ⟨bR, 0, none⟩) g.rules.length c2) [3, 4, 5, 11, 12, 13] rfl (by kernel_rfl) (by kernel_rfl) (by kernel_rfl) (by kernel_rfl) (by kernel_rfl) (by kernel_rfl) (by kernel_rfl) (fun _ _ _ h => h) (by go_simp) ?_ rfl ?_
              · (intro w' hS; subst hS; go_simp)
              refine wpAnyD_pure (i := 3) (v := ?_) [4, 5, 11, 12, 13] rfl (by kernel_rfl) (by kernel_rfl) (by kernel_rfl) (by kernel_rfl) (by kernel_rfl) (by kernel_rfl) (by kernel_rfl) (fun _ _ _ h => h) (by go_simp) ?_ rfl ?_
              rotate_left
              · (intro w'; go_simp; first | done | with_reducible rfl)
              refine wpAnyD_pure (i := 4) (v := ?_) [5, 11, 12, 13] rfl (by kernel_rfl) (by kernel_rfl) (by kernel_rfl) (by kernel_rfl) (by kernel_rfl) (by kernel_rfl) (by kernel_rfl) (fun _ _ _ h => h) (by go_simp) ?_ rfl ?_
              rotate_left
              · (intro w'; go_simp; first | done | with_reducible rfl)
              refine wpAnyD_load (i := 5) (v := .slice (some ⟨b5, 0, none⟩) r.r.length c5) [11, 12, 13] rfl (by kernel_rfl) (by kernel_rfl) (by kernel_rfl) (by kernel_rfl) (by kernel_rfl) (by kernel_rfl) (by kernel_rfl) (fun _ _ _ h => h) (by go_simp) ?_ rfl ?_
              · (intro w' hS; subst hS; go_simp)
              refine wpAnyD_load (i := 9) (v := .int .i64 yn) [10, 13] rfl (by kernel_rfl) (by kernel_rfl) (by kernel_rfl) (by kernel_rfl) (by kernel_rfl) (by kernel_rfl) (by kernel_rfl) (fun _ _ _ h => h) (by go_simp) ?_ rfl ?_
              · (intro w' hS; subst hS; go_simp)
              refine wpAnyD_each (rs := [10]) (by kernel_rfl) (by simp) ?_
              refine EachD.cons (i := 10) (o := _) rfl (fun K hK => ?_) EachD.nil
              go_simp
              refine (HTO.out yn _ rfl HY0.out.1 HY0.out.2).mono ?_
              rintro e7 w7 ⟨rfl, rfl⟩
              try go_simp
              refine hK _ _ (fun _ => rfl) ?_
              clear hK K
              refine wpAnyD_pure (i := 11) (v := ?_) [12, 13] rfl (by kernel_rfl) (by kernel_rfl) (by kernel_rfl) (by kernel_rfl) (by kernel_rfl) (by kernel_rfl) (by kernel_rfl) (fun _ _ _ h => h) (by go_simp) ?_ rfl ?_
              rotate_left
              · (intro w'; go_simp; first | done | with_reducible rfl)
              refine wpAnyD_pure (i := 12) (v := ?_) [13] rfl (by kernel_rfl) (by kernel_rfl) (by kernel_rfl) (by kernel_rfl) (by kernel_rfl) (by kernel_rfl) (by kernel_rfl) (fun _ _ _ h => h) (by go_simp) ?_ rfl ?_
              rotate_left
              · (intro w'; go_simp; first | done | with_reducible rfl)
              refine wpAnyD_each (rs := [13]) (by kernel_rfl) (by simp) ?_
              refine EachD.cons (i := 13) (o := _) rfl (fun K hK => ?_) EachD.nil
              go_simp
              refine hK _ _ (fun e => Bool.noConfusion (show true = false from e)) ?_
              clear hK K
              refine wpAnyD_of _ _ _ _ (by kernel_rfl) ?_
              refine wpAny_done (by kernel_rfl) ?_ _
              go_wp2_with fail
              go_roundg (r.r.length - (j + 1))
              case measure => omega
              case rel => exact ⟨j + 1, by omega, rfl, by go_num, HWR.out, hB10, gh10⟩
            · have hren : renS φ ⟨true, yn⟩ = ⟨true, yn⟩ := rfl
              have hmj := hmid hren
              have HR1 := Lib.hid (show RulesAt WW (w3.heap.size + 3) (.slice (some ⟨bR, 0, none⟩) g.rules.length c2) ((mapQ (renR φ) g.rules q).set q ⟨φ r.l, mapQ (renS φ) r.r (j + 1)⟩) xs2 by rw [hmj]; exact hR1)
              clear hR hR1 hsy hmset hmid hmj hysy hB ghr hren d1 hyf
              go_wp2_with fail
              rw [← hWW]
              go_roundg (r.r.length - (j + 1))
              case measure => omega
              case rel => exact ⟨j + 1, by omega, rfl, by go_num, HR1.out, hB1, gh1⟩
        · obtain rfl : j = r.r.length := by omega
          have hall : (mapQ (renR φ) g.rules q).set q ⟨φ r.l, mapQ (renS φ) r.r r.r.length⟩ = mapQ (renR φ) g.rules (q + 1) := by
            rw [mapQ_all, ← HSET.out]
            rfl
          have HRQ := Lib.hid (show RulesAt wi (w3.heap.size + 3) (.slice (some ⟨bR, 0, none⟩) g.rules.length c2) (mapQ (renR φ) g.rules (q + 1)) xs2 by rw [← hall]; exact hR)
          clear hR hall
          go_wp2_with fail
          go_roundg (g.rules.length - (q + 1))
          case measure => omega
          case rel => exact ⟨q + 1, xs2, by omega, rfl, by go_num, HRQ.out, hB, ghr⟩
    · obtain rfl : q = g.rules.length := by omega
      rw [mapQ_all] at hR
      have hsl := hR.isSl (fun r hr => by
        obtain ⟨r0, h1, rfl⟩ := List.mem_map.1 hr
        have := (HOKR.out r0 h1).len
        show (r0.r.map (renS φ)).length ≤ _
        rw [List.length_map]; omega)
      have hr9 := HR5.out.keep (w' := WW) (fun b hb => hB.block b (by omega)) hszq
      have hx9 := HX5.out.keep (w' := WW) (fun b hb => hB.block b (by omega)) hszq
      have gg9 := (hB.block bg hbg3).trans gg5
      have hcg := mcount_any (fun b => b < w3.heap.size) (g := g) (x := x) HV.out (by omega) WW hcap HOKW.out hr9 hx9
      have hvr := ren_valid HV.out HTU.out
      have hrl2 : (renG φ g).rules.length = g.rules.length := by show (g.rules.map (renR φ)).length = _; rw [List.length_map]
      have hww : Below w.heap.size w WW := hw5.trans (hB.mono (by omega))
      have k0 := blk_cell gg9 (i := 0) rfl
      have k1 := blk_cell gg9 (i := 1) rfl
      have k2 := blk_cell gg9 (i := 2) rfl
      have k3 := blk_cell gg9 (i := 3) rfl
      unfold gramV at hcg
      have HSL := Lib.hid hsl
      have HCG := Lib.hid hcg
      clear hsl hcg hr9 hR hB hrl2 hvr
      go_wp2_with fail
      refine HCG.out.mono ?_
      rintro e7 w7 ⟨M, hIM, rfl, hb7⟩
      have gh7 := blk_below hb7 (blk_lt ghr) ghr
      have hx7 := hx9.below hb7
      have hcm : Calls Try.prog 32 #[.agg #[.int .i64 g.terms, .int .i64 g.nons, .int .i64 (φ g.start), .slice (some ⟨bR, 0, none⟩) g.rules.length c2], .slice C x.length cx] w7 fun e w' => ∃ M, IsM (renG φ g) x M ∧ e = .returned (.tuple #[.int .i64 (cntU (renG φ g) x M), .int .i64 0]) ∧ Below w7.heap.size w7 w' := by
        have hrl2 : (renG φ g).rules.length = g.rules.length := by show (g.rules.map (renR φ)).length = _; rw [List.length_map]
        have h := mcount_any (fun _ => True) (g := renG φ g) (x := x) (A := some ⟨bR, 0, none⟩) (c := c2) (B := C) (d := cx) (ren_valid HV.out HTU.out) (by omega) w7 (by rw [hrl2]; exact hcap4) HOKW.out (by rw [hrl2]; exact (HSL.out.below hb7).weak fun _ _ => trivial) (hx7.weak fun _ _ => trivial)
        rw [hrl2] at h
        exact h
      have hw7 := hww.trans (hb7.mono hww.size)
      have HIM := Lib.hid hIM
      have HCM := Lib.hid hcm
      have k0 := blk_cell gh7 (i := 0) rfl
      have k1 := blk_cell gh7 (i := 1) rfl
      have k2 := blk_cell gh7 (i := 2) rfl
      have k3 := blk_cell gh7 (i := 3) rfl
      clear hcm hIM hb7 hx7 hx9 gg9 ghr gh7 hww
      go_wp2_with fail
      refine HCM.out.mono ?_
      rintro e8 w8 ⟨M8, hIM8, rfl, hb8⟩
      rw [← ren_count HV.out HTU.out HIM.out hIM8]
      have hw8 := hw7.trans (hb8.mono hw7.size)
      generalize cntU g x M = cu
      clear hb8 hw7 hIM8 k0 k1 k2 k3
      go_wp2_with fail
      refine (HME.out w8).mono ?_
      rintro e9 w9 ⟨rfl, hb9⟩
      have hw9 := hw8.trans (hb9.mono hw8.size)
      go_wp2_with fail
      go_ret
      exact ⟨rfl, hw9⟩
end Go.Proofs.Ytdbkbkopcnkgcaa
