import Derived.Test.YtcndbohiiodndaaFeedF
open Go Go.RowKit
open Go.ChangeMaps (setBlock)
namespace Go.Proofs.Ytcndbohiiodndaa

/-- a terminal that may come next, by the items of a set -/
def NextT (g : Gram) (T : Item → Prop) (t : Int) : Prop := ∃ m e h r, T (m, e, h) ∧ g.rules[m]? = some r ∧ r.r[e]? = some ⟨true, t⟩
def NextE (g : Gram) (T : Item → Prop) : Prop := ∃ m e h r, T (m, e, h) ∧ g.rules[m]? = some r ∧ e = r.r.length ∧ h = 0 ∧ r.l = g.start

structure Outs (g : Gram) (T : Item → Prop) (o : List Bool) : Prop where
  len : (o.length : Int) = g.terms + 1
  term : ∀ t : Nat, (t : Int) < g.terms → (o[t]? = some true ↔ NextT g T t)
  fin : o[g.terms.toNat]? = some true ↔ NextE g T

theorem set_true (o : List Bool) (i j : Nat) (hi : i < o.length) : (o.set i true)[j]? = some true ↔ (j = i ∨ o[j]? = some true) := by
  by_cases e : i = j
  · subst e; simp [hi]
  · rw [List.getElem?_set_ne e]
    constructor
    · exact .inr
    · rintro (h | h)
      · exact absurd h.symm e
      · exact h

theorem Outs.none {g : Gram} {T : Item → Prop} {o : List Bool} {m e h : Nat} {r : Rule} (ho : Outs g T o) (hr : g.rules[m]? = some r) (h1 : ∀ t, r.r[e]? ≠ some ⟨true, t⟩) (h2 : ¬ (e = r.r.length ∧ h = 0 ∧ r.l = g.start)) : Outs g (fun z => z = (m, e, h) ∨ T z) o := by
  refine ⟨ho.len, fun t ht => (ho.term t ht).trans ?_, ho.fin.trans ?_⟩
  · constructor
    · rintro ⟨m', e', h', r', k1, k2⟩; exact ⟨m', e', h', r', .inr k1, k2⟩
    · rintro ⟨m', e', h', r', k1 | k1, k2, k3⟩
      · simp only [Prod.mk.injEq] at k1
        obtain ⟨rfl, rfl, rfl⟩ := k1
        rw [hr] at k2; injection k2 with k2; subst k2
        exact absurd k3 (h1 _)
      · exact ⟨m', e', h', r', k1, k2, k3⟩
  · constructor
    · rintro ⟨m', e', h', r', k1, k2⟩; exact ⟨m', e', h', r', .inr k1, k2⟩
    · rintro ⟨m', e', h', r', k1 | k1, k2, k3⟩
      · simp only [Prod.mk.injEq] at k1
        obtain ⟨rfl, rfl, rfl⟩ := k1
        rw [hr] at k2; injection k2 with k2; subst k2
        exact absurd k3 h2
      · exact ⟨m', e', h', r', k1, k2, k3⟩
theorem Outs.put {g : Gram} {T : Item → Prop} {o : List Bool} {m e h : Nat} {r : Rule} {n : Int} (ho : Outs g T o) (hr : g.rules[m]? = some r) (h1 : r.r[e]? = some ⟨true, n⟩) (n0 : 0 ≤ n) (n1 : n < g.terms) : Outs g (fun z => z = (m, e, h) ∨ T z) (o.set n.toNat true) := by
  have hl := ho.len
  refine ⟨by simpa using ho.len, fun t ht => ?_, ?_⟩
  · rw [set_true _ _ _ (by omega), ho.term t ht]
    constructor
    · rintro (k | ⟨m', e', h', r', k1, k2⟩)
      · exact ⟨m, e, h, r, .inl rfl, hr, by rw [h1, k]; congr 2; omega⟩
      · exact ⟨m', e', h', r', .inr k1, k2⟩
    · rintro ⟨m', e', h', r', k1 | k1, k2, k3⟩
      · simp only [Prod.mk.injEq] at k1
        obtain ⟨rfl, rfl, rfl⟩ := k1
        rw [hr] at k2; injection k2 with k2; subst k2
        rw [h1] at k3
        injection k3 with k3
        injection k3 with _ k3
        exact .inl (by omega)
      · exact .inr ⟨m', e', h', r', k1, k2, k3⟩
  · rw [set_true _ _ _ (by omega), ho.fin]
    constructor
    · rintro (k | ⟨m', e', h', r', k1, k2⟩)
      · omega
      · exact ⟨m', e', h', r', .inr k1, k2⟩
    · rintro ⟨m', e', h', r', k1 | k1, k2, k3⟩
      · simp only [Prod.mk.injEq] at k1
        obtain ⟨rfl, rfl, rfl⟩ := k1
        rw [hr] at k2; injection k2 with k2; subst k2
        have := (List.getElem?_eq_some_iff.1 h1).1
        omega
      · exact .inr ⟨m', e', h', r', k1, k2, k3⟩
theorem Outs.putE {g : Gram} {T : Item → Prop} {o : List Bool} {m e h : Nat} {r : Rule} (ho : Outs g T o) (hr : g.rules[m]? = some r) (h1 : e = r.r.length ∧ h = 0 ∧ r.l = g.start) (ht0 : 0 ≤ g.terms) : Outs g (fun z => z = (m, e, h) ∨ T z) (o.set g.terms.toNat true) := by
  have hl := ho.len
  refine ⟨by simpa using ho.len, fun t ht => ?_, ?_⟩
  · rw [set_true _ _ _ (by omega), ho.term t ht]
    constructor
    · rintro (k | ⟨m', e', h', r', k1, k2⟩)
      · omega
      · exact ⟨m', e', h', r', .inr k1, k2⟩
    · rintro ⟨m', e', h', r', k1 | k1, k2, k3⟩
      · simp only [Prod.mk.injEq] at k1
        obtain ⟨rfl, rfl, rfl⟩ := k1
        rw [hr] at k2; injection k2 with k2; subst k2
        have := (List.getElem?_eq_some_iff.1 k3).1
        omega
      · exact .inr ⟨m', e', h', r', k1, k2, k3⟩
  · rw [set_true _ _ _ (by omega), ho.fin]
    constructor
    · rintro (k | ⟨m', e', h', r', k1, k2⟩)
      · exact ⟨m, e, h, r, .inl rfl, hr, h1⟩
      · exact ⟨m', e', h', r', .inr k1, k2⟩
    · intro _; exact .inl rfl
theorem Outs.congr {g : Gram} {T T' : Item → Prop} {o : List Bool} (h : ∀ z, T z ↔ T' z) (ho : Outs g T o) : Outs g T' o := by
  have : T = T' := funext fun z => propext (h z)
  rwa [← this]

structure NInv (w wr : World) (g : Gram) (T : Item → Prop) (o : List Bool) : Prop where
  below : Below w.heap.size w wr
  outs : wr.heap[w.heap.size]? = some (.cells (o.map Value.bool).toArray 4 (0, 0))
  size : w.heap.size + 2 ≤ wr.heap.size
  is : Outs g T o

section
variable {D : Nat → Prop} {bf lim : Nat} {g : Gram} {gd : List Bool} {x : List Int} {S : Nat → Item → Prop} {A : Option Addr} {cr : Nat} {B : Option Addr} {cg : Nat} {C : Option Addr} {cw : Nat} {E : Option Addr} {cs : Nat} {rs : List Nat}

set_option maxRecDepth 100000 in
set_option maxHeartbeats 1600000 in
theorem next_any (w : World) (h : FeedAt D w bf lim g gd x S A cr B cg C cw E cs rs) (hv : Valid g) (hx : x.length ≤ 12) :
    Calls Try.prog 21 #[.pointer (some ⟨bf, 0, none⟩)] w fun e w' => ∃ (b : Nat) (o : List Bool), e = .returned (.slice (some ⟨b, 0, none⟩) o.length o.length) ∧ Outs g (S x.length) o ∧ Below w.heap.size w w' ∧ w.heap.size ≤ b ∧ w'.heap[b]? = some (.cells (o.map Value.bool).toArray 4 (0, 0)) := by
  obtain ⟨T, hT⟩ : ∃ T : Nat, g.terms = T := ⟨g.terms.toNat, by have := hv.t1; omega⟩
  have hT8 : T ≤ 8 := by have := hv.t8; omega
  have h32 := hv.len
  have h4 : ∀ r ∈ g.rules, r.r.length ≤ 4 := fun r hr => (hv.ok r hr).len
  have hc0 := blk_cell h.blk (i := 0) rfl
  rw [hT] at hc0
  have hc1 := blk_cell h.blk (i := 2) rfl
  have hc2 := blk_cell h.blk (i := 3) rfl
  have hc5 := blk_cell h.blk (i := 5) rfl
  have hc6 := blk_cell h.blk (i := 6) rfl
  have hbl := blk_lt h.blk
  have hk : x.length < rs.length := by have := h.len; omega
  obtain ⟨eb, rfl, hebl, hec⟩ := h.setAt x.length hk
  obtain ⟨⟨lm, hmap, htrue, hmem⟩, hD, hlimr⟩ := h.maps x.length hk
  have hkz : (x.length : Int) < (rs.length : Int) := by omega
  have hmk := run_make_row' (P := Try.prog) 35 4 (.bool false) 1 Try.underlying35 Try.infoBool rfl .i64 .i64 (T + 1) (by omega) (by omega)
  simp only [Int.natCast_add, Int.natCast_one] at hmk
  have HT := Lib.hid hT
  clear hT
  go_enter Try.func21, Try.ntmps21
  go_wp2_with fail
  clear hmk
  obtain ⟨o2, hrun0, hit⟩ := run_rangeM (P := Try.prog) (w := (w.alloc (.cells (madeCells #[.bool false] (T + 1)) 4)).drew) Try.underlying112 (hmap.same (w' := (w.alloc (.cells (madeCells #[.bool false] (T + 1)) 4)).drew) (Below.heap_alloc _ _ _ hmap.lt))
  have hrun : (Instr.range 112 (.map (some rs[x.length]))).run Try.prog ((w.alloc (.cells (madeCells #[.bool false] (T + 1)) 4)).drew) = .ok (.pointer (some ⟨w.heap.size + 1, 0, none⟩)) ((w.alloc (.cells (madeCells #[.bool false] (T + 1)) 4)).alloc o2).drew := by
    have e : ((w.alloc (.cells (madeCells #[.bool false] (T + 1)) 4)).drew).heap.size = w.heap.size + 1 := World.size_alloc _ _
    rw [← e]; exact hrun0
  go_region
  have hI0 : NInv w ((w.alloc (.cells (madeCells #[.bool false] (T + 1)) 4)).alloc o2).drew g (fun _ => False) (List.replicate (T + 1) false) := by
    have e : (w.alloc (.cells (madeCells #[.bool false] (T + 1)) 4)).heap.size = w.heap.size + 1 := World.size_alloc _ _
    refine ⟨(((Below.refl _ _).alloc (Nat.le_refl _) _).alloc (by simp) _).drew, ?_, by simp, ⟨by rw [HT.out]; simp, fun t _ => ?_, ?_⟩⟩
    · rw [drew_heap, Below.heap_alloc _ _ _ (by omega), heap_alloc_new, made_one, List.map_replicate]
    · rw [List.getElem?_replicate]
      constructor
      · intro h; split at h <;> cases h
      · rintro ⟨m, e, h, r, k, _⟩; exact k.elim
    · rw [List.getElem?_replicate]
      constructor
      · intro h; split at h <;> cases h
      · rintro ⟨m, e, h, r, k, _⟩; exact k.elim
  have hit0 : Iter itemV Value.bool ((w.alloc (.cells (madeCells #[.bool false] (T + 1)) 4)).alloc o2).drew (w.heap.size + 1) rs[x.length] lm (lm.map (·.1)) [] := by
    have e : ((w.alloc (.cells (madeCells #[.bool false] (T + 1)) 4)).drew).heap.size = w.heap.size + 1 := World.size_alloc _ _
    rw [← e]; exact hit.same rfl rfl
  clear hrun hrun0 hit
  go_wp2
  go_loopg [38] 2080 (fun gk _v wr => ∃ (done : List Item) (o : List Bool), gk = 2080 - done.length ∧ NInv w wr g (fun z => z ∈ done) o ∧ Iter itemV Value.bool wr (w.heap.size + 1) rs[x.length] lm (lm.map (·.1)) done)
  case atStart => exact ⟨[], _, rfl, ⟨hI0.below, hI0.outs, hI0.size, hI0.is.congr fun z => by simp⟩, hit0⟩
  case round =>
    clear hI0 hit0
    obtain ⟨done, o, rfl, hI, hit⟩ := hrel
    rcases hit.next (P := Try.prog) itemV_inj 0 with ⟨nn, hdone, hnx⟩ | ⟨nn, z, zv, o3, hzk, hzd, hzm, hnx, hit2, hent⟩
    · go_wp2
      go_ret
      have hl := hI.is.len
      refine ⟨w.heap.size, o, ?_, hI.is.congr fun z => ?_, below_drewN hI.below _, Nat.le_refl _, hI.outs⟩
      · have : o.length = T + 1 := by have := HT.out; omega
        rw [this]; rfl
      · rw [← hmem]
        exact ⟨fun hz => by
          obtain ⟨es, clock, since, seen, last, _, _, _, _, _, _, _, hnd, hsub⟩ := hit
          exact hsub z hz, hdone z⟩
    · have hdn : done.length + 1 ≤ 2080 := by
        have h1 := items_bound (g := g) (m := x.length) (l := z :: done) ?_ ?_ h32 h4 (by omega)
        · simpa using h1
        · obtain ⟨es, clock, since, seen, last, _, _, _, _, _, _, _, hnd, hsub⟩ := hit2
          exact hnd
        · intro y hy
          obtain ⟨es, clock, since, seen, last, _, _, _, _, _, _, _, hnd, hsub⟩ := hit2
          exact h.ok x.length y (Nat.le_refl _) ((hmem y).1 (hsub y hy))
      have hbW : Below w.heap.size w (setBlock (wr.drewN nn) (w.heap.size + 1) o3) := below_setBlock (below_drewN hI.below _) (by omega) _
      have hoW : (setBlock (wr.drewN nn) (w.heap.size + 1) o3).heap[w.heap.size]? = some (.cells (o.map Value.bool).toArray 4 (0, 0)) := (setBlock_other _ _ _ (by omega)).trans hI.outs
      have hsW : (setBlock (wr.drewN nn) (w.heap.size + 1) o3).heap.size = wr.heap.size := setBlock_size _ _ _
      have hsz := hI.size
      have his := hI.is
      generalize setBlock (wr.drewN nn) (w.heap.size + 1) o3 = W1 at hnx hit2 hent hbW hoW hsW
      clear hI hit
      obtain ⟨m, e, h'⟩ := z
      obtain ⟨r, hm, he4, hh'⟩ := h.ok x.length _ (Nat.le_refl _) ((hmem _).1 hzk)
      simp only at hm he4 hh'
      obtain ⟨hm1, hm2⟩ := List.getElem?_eq_some_iff.1 hm
      obtain ⟨b5, o5, rfl, hF5, hl5, hc11, A5, c5, hc12, hsy5⟩ := (h.rules.below hbW).ruleAt m hm1
      rw [hm2] at hc11 hc12 hsy5
      have hok := hv.ok r (List.mem_of_getElem? hm)
      have hc3r := (hbW.cell (p := ⟨bf, 3, none⟩) hbl).trans hc2
      have hmz : (m : Int) < (g.rules.length : Int) := by omega
      unfold itemV at hnx hent
      have hl := his.len
      rw [HT.out] at hl
      have HL := Lib.hid hl
      clear hl
      have hWb : w.heap.size < W1.heap.size := by omega
      clear hc6 hec hc5 hc2
      have hbf : bf < W1.heap.size := by omega
      have hb5 : b5 < W1.heap.size := by omega
      have HSW := Lib.hid hsW
      clear hsW
      go_wp2_with fail
      go_region
      have hbx : Below W1.heap.size W1 ((W1.alloc (.cells #[.int .i64 m, .int .i64 e, .int .i64 h'] 114)).alloc (.cells #[.int .i64 r.l, .slice A5 r.r.length c5] 60)).drew := (((Below.refl _ _).alloc (Nat.le_refl _) _).alloc (by simp) _).drew
      have hx0 : ((W1.alloc (.cells #[.int .i64 m, .int .i64 e, .int .i64 h'] 114)).alloc (.cells #[.int .i64 r.l, .slice A5 r.r.length c5] 60)).drew.heap[W1.heap.size]? = some (.cells #[.int .i64 m, .int .i64 e, .int .i64 h'] 114 (0, 0)) := by
        rw [drew_heap, Below.heap_alloc _ _ _ (by simp), heap_alloc_new]
      have hx1 : ((W1.alloc (.cells #[.int .i64 m, .int .i64 e, .int .i64 h'] 114)).alloc (.cells #[.int .i64 r.l, .slice A5 r.r.length c5] 60)).drew.heap[W1.heap.size + 1]? = some (.cells #[.int .i64 r.l, .slice A5 r.r.length c5] 60 (0, 0)) := by
        rw [drew_heap, show W1.heap.size + 1 = (W1.alloc (.cells #[.int .i64 m, .int .i64 e, .int .i64 h'] 114)).heap.size by simp, heap_alloc_new]
      generalize ((W1.alloc (.cells #[.int .i64 m, .int .i64 e, .int .i64 h'] 114)).alloc (.cells #[.int .i64 r.l, .slice A5 r.r.length c5] 60)).drew = W2 at hbx hx0 hx1 ⊢
      have hit3 := hit2.below (hbx.mono (Nat.le_refl _))
      have hoW2 := blk_below hbx hWb hoW
      have hs3 : w.heap.size + 2 ≤ W2.heap.size := by have := HSW.out; have := hbx.size; omega
      have e00 := blk_cell hx0 (i := 0) rfl
      have e01 := blk_cell hx0 (i := 1) rfl
      have e02 := blk_cell hx0 (i := 2) rfl
      have e10 := blk_cell hx1 (i := 0) rfl
      have e11 := blk_cell hx1 (i := 1) rfl
      have hbfz : W2.frozen? ⟨w.heap.size, 0, none⟩ = false := blk_free hoW2
      have hc0w := (hbx.cell (p := ⟨bf, 0, none⟩) (by show bf < W1.heap.size; omega)).trans ((hbW.cell (p := ⟨bf, 0, none⟩) hbl).trans hc0)
      have hc1w := (hbx.cell (p := ⟨bf, 2, none⟩) (by show bf < W1.heap.size; omega)).trans ((hbW.cell (p := ⟨bf, 2, none⟩) hbl).trans hc1)
      by_cases hee : e < r.r.length
      · obtain ⟨b6, o6, rfl, hF6, hl6, hc13, hc14⟩ := (hsy5.below hbx).symAt e hee
        have hez : (e : Int) < (r.r.length : Int) := by omega
        have hsome := List.getElem?_eq_getElem hee
        have hsym := hok.syms r.r[e] (by simp)
        have HSM := Lib.hid hsome
        clear hsome
        generalize hye : r.r[e] = ye at hc13 hc14 HSM hsym
        clear hye
        obtain ⟨yt, yn⟩ := ye
        have hyn0 := hsym.n0
        simp only at hyn0
        obtain ⟨yk, rfl⟩ : ∃ k : Nat, yn = (k : Int) := ⟨yn.toNat, by omega⟩
        have hel : ((e : Int) == (r.r.length : Int)) = false := by rw [beq_eq_false_iff_ne]; omega
        cases yt
        · have hout := his.none (m := m) (e := e) (h := h') hm (by rw [HSM.out]; intro t ht; cases ht) (by omega)
          clear his
          go_wp2_with fail
          go_quiet (fail)
          go_wp2_with fail
          go_roundg (2080 - (done.length + 1))
          case measure => omega
          case rel => exact ⟨(m, e, h') :: done, o, by simp, ⟨below_drewN (hbW.trans (hbx.mono (by omega))) _, hoW2, hs3, hout.congr fun z => by simp⟩, hit3.same rfl rfl⟩
        · have hyn1 := hsym.nt rfl
          simp only at hyn1
          have hout := his.put (m := m) (e := e) (h := h') hm HSM.out hyn0 hyn1
          rw [HT.out] at hyn1
          have hyl : yk < o.length := by have := HL.out; omega
          have hyz : (yk : Int) < (T : Int) + 1 := by omega
          have hyT : yk < T + 1 := by omega
          have hoc : W2.cell? ⟨w.heap.size, yk, none⟩ = some (.bool o[yk]) := blk_cell hoW2 (by simp [hyl])
          have hof : W2.frozen? ⟨w.heap.size, yk, none⟩ = false := blk_free hoW2
          simp only [Int.toNat_natCast] at hout
          clear his
          go_wp2_with fail
          go_roundg (2080 - (done.length + 1))
          case measure => omega
          case rel => exact ⟨(m, e, h') :: done, o.set yk true, by simp, ⟨(hbW.trans (hbx.mono (by omega))).setCell (Nat.le_refl _) _, (heap_set hoW2 _ _).trans (by rw [List.map_set]; congr 2; apply Array.ext'; simp), by rw [size_setCell]; exact hs3, hout.congr fun z => by simp⟩, hit3.same (heap_set_ne (by have := hmap.lt; omega) _ _) (heap_set_ne (by omega) _ _)⟩
      · obtain rfl : e = r.r.length := by omega
        have hel : decide ((r.r.length : Int) < (r.r.length : Int)) = false := by simp
        have hnone : ∀ t, r.r[r.r.length]? ≠ some ⟨true, t⟩ := fun t => by rw [List.getElem?_eq_none (Nat.le_refl _)]; simp
        by_cases hcase : h' = 0 ∧ r.l = g.start
        · obtain ⟨rfl, hls⟩ := hcase
          have hout := his.putE (m := m) (h := 0) hm ⟨rfl, rfl, hls⟩ (by have := HT.out; omega)
          rw [HT.out] at hout
          have hyl : T < o.length := by have := HL.out; omega
          have hyz : (T : Int) < (T : Int) + 1 := by omega
          have hoc : W2.cell? ⟨w.heap.size, T, none⟩ = some (.bool o[T]) := blk_cell hoW2 (by simp [hyl])
          have hof : W2.frozen? ⟨w.heap.size, T, none⟩ = false := blk_free hoW2
          have hlsb : (r.l == g.start) = true := by simp [hls]
          simp only [Int.toNat_natCast] at hout
          clear his hls
          go_wp2_with fail
          go_quiet (fail)
          go_wp2_with fail
          go_roundg (2080 - (done.length + 1))
          case measure => omega
          case rel => exact ⟨(m, r.r.length, 0) :: done, o.set T true, by simp, ⟨(below_drewN (hbW.trans (hbx.mono (by omega))) _).setCell (Nat.le_refl _) _, (heap_set hoW2 _ _).trans (by rw [List.map_set]; congr 2; apply Array.ext'; simp), by rw [size_setCell]; exact hs3, hout.congr fun z => by simp⟩, hit3.same (heap_set_ne (by have := hmap.lt; omega) _ _) (heap_set_ne (by omega) _ _)⟩
        · have hout := his.none (m := m) (h := h') hm hnone (by rintro ⟨_, k1, k2⟩; exact hcase ⟨k1, k2⟩)
          clear his
          by_cases hh0 : h' = 0
          · subst hh0
            have hlsb : (r.l == g.start) = false := by simpa using hcase
            go_wp2_with fail
            go_quiet (fail)
            go_wp2_with fail
            go_roundg (2080 - (done.length + 1))
            case measure => omega
            case rel => exact ⟨(m, r.r.length, 0) :: done, o, by simp, ⟨below_drewN (hbW.trans (hbx.mono (by omega))) _, hoW2, hs3, hout.congr fun z => by simp⟩, hit3.same rfl rfl⟩
          · have hh0b : ((h' : Int) == 0) = false := by simpa using hh0
            go_wp2_with fail
            go_quiet (fail)
            go_wp2_with fail
            go_roundg (2080 - (done.length + 1))
            case measure => omega
            case rel => exact ⟨(m, r.r.length, h') :: done, o, by simp, ⟨below_drewN (hbW.trans (hbx.mono (by omega))) _, hoW2, hs3, hout.congr fun z => by simp⟩, hit3.same rfl rfl⟩
end
end Go.Proofs.Ytcndbohiiodndaa
