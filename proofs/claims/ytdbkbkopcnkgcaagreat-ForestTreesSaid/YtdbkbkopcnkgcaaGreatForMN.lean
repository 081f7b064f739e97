import Derived.Test.YtdbkbkopcnkgcaaGreatForL
import Derived.Test.YtdbkbkopcnkgcaaGreatMeanD
import Derived.Deep.DeepCutAuto
open Go Go.RowKit
namespace Go.Proofs.YtdbkbkopcnkgcaaGreat

/-- rows of ends that are being made -/
structure EMade (w wr : World) (L N k : Nat) : Prop where
  below : Below w.heap.size w wr
  of_ : wr.heap[w.heap.size + 1]? = some (.cells ((List.range N).map (fun n => if n < k then (.slice (some ⟨w.heap.size + 2 + n, 0, none⟩) L L : Value) else .slice none 0 0)).toArray 102 (0, 0))
  row : ∀ n, n < k → wr.heap[w.heap.size + 2 + n]? = some (.cells (List.replicate L (.int .u32 0)).toArray 103 (0, 0))
  size : wr.heap.size = w.heap.size + 2 + k

theorem EMade.step {w wr : World} {L N k : Nat} (h : EMade w wr L N k) (hk : k < N) :
    EMade w ((wr.alloc (.cells (madeCells #[.int .u32 0] L) 103)).setCell ⟨w.heap.size + 1, k, none⟩ (.slice (some ⟨wr.heap.size, 0, none⟩) L L)) L N (k + 1) := by
  have hs := h.size
  have hold : ∀ b, b < wr.heap.size → (wr.alloc (.cells (madeCells #[.int .u32 0] L) 103)).heap[b]? = wr.heap[b]? := fun b hb => Below.heap_alloc wr _ b hb
  refine ⟨?_, ?_, ?_, ?_⟩
  · exact (h.below.alloc h.below.size _).setCell (by show w.heap.size ≤ w.heap.size + 1; omega) _
  · rw [heap_set (by rw [hold _ (by omega)]; exact h.of_)]
    congr 2
    apply Array.ext'
    simp only [Array.toList_setIfInBounds]
    apply List.ext_getElem?
    intro i
    rw [List.getElem?_set]
    by_cases hi : k = i
    · subst hi; simp [hk, hs]
    · simp only [hi, if_false, List.getElem?_map]
      cases hr : (List.range N)[i]? with
      | none => rfl
      | some v =>
        have hv : v = i := by
          obtain ⟨_, h2⟩ := List.getElem?_eq_some_iff.1 hr
          simp at h2; exact h2.symm
        subst hv
        simp only [Option.map_some]
        by_cases h3 : v < k
        · rw [if_pos h3, if_pos (by omega)]
        · rw [if_neg h3, if_neg (by omega)]
  · intro n hn
    rw [heap_set_ne (by omega)]
    by_cases e : n = k
    · subst e
      rw [← hs, heap_alloc_new, made_one]
    · rw [hold _ (by omega)]; exact h.row n (by omega)
  · rw [size_setCell, World.size_alloc, hs]; omega

theorem EMade.start (w : World) (L N : Nat) (b : Obj) {wr : World} (hw : wr = (w.alloc b).alloc (.cells (madeCells #[.slice none 0 0] N) 102)) :
    EMade w wr L N 0 := by
  subst hw
  have e1 : (w.alloc b).heap.size = w.heap.size + 1 := World.size_alloc _ _
  refine ⟨((Below.refl _ _).alloc (Nat.le_refl _) _).alloc (by rw [e1]; omega) _, ?_, ?_, ?_⟩
  · rw [← e1, heap_alloc_new, made_one]
    congr 2
    apply Array.ext'
    simp only [Nat.not_lt_zero, if_false]
    apply List.ext_getElem <;> simp
  · intro n hn; omega
  · rw [World.size_alloc, e1]

set_option maxRecDepth 100000 in
set_option maxHeartbeats 800000 in
theorem empty_any (g : Gram) (rs : Value) (N : Nat) (hN : g.nons = N) (hN10 : N ≤ 10) (B : Option Addr) (m d : Nat) (hm : m ≤ 12) (w : World) :
    Calls Tryz.prog 34 #[gramV g rs, .slice B m d] w fun e w' => e = .returned (.slice (some ⟨w.heap.size + 1, 0, none⟩) N N) ∧ EMade w w' (m + 1) N N := by
  have hmk := run_make_row' (P := Tryz.prog) 53 102 (.slice none 0 0) 24 Tryz.underlying53 Tryz.infoU32s rfl .i64 .i64 N (by omega) (by omega)
  unfold gramV
  rw [hN]
  have HN := Lib.hid hN
  clear hN
  go_enter Tryz.func34, Tryz.ntmps34
  go_wp2
  have hmk2 := run_make_row' (P := Tryz.prog) 102 103 (.int .u32 0) 4 Tryz.underlying102 Tryz.infoU32 rfl .i64 .i64 (m + 1) (by omega) (by omega)
  simp only [Int.natCast_add, Int.natCast_one] at hmk2
  clear hmk
  go_loopg [12] N (fun gk i wr => ∃ k : Nat, k ≤ N ∧ gk = N - k ∧ i = .int .i64 k ∧ EMade w wr (m + 1) N k)
  case atStart => exact ⟨0, by omega, by omega, rfl, EMade.start w _ N _ rfl⟩
  case round =>
    obtain ⟨k, hk, rfl, rfl, hD⟩ := hrel
    by_cases hlt : k < N
    · have hgs := hD.size
      have hst1 : ∀ o, (wr.alloc o).cell? ⟨w.heap.size + 1, k, none⟩ = some (.slice none 0 0) := fun o => by
        rw [World.cell?_alloc_old _ _ _ (by show w.heap.size + 1 ≠ wr.heap.size; omega)]
        exact blk_cell hD.of_ (by simp [hlt])
      have hst2 : ∀ o, (wr.alloc o).frozen? ⟨w.heap.size + 1, k, none⟩ = false := fun o => by
        rw [World.frozen?_of_block (w := wr) (Below.heap_alloc wr o _ (by show w.heap.size + 1 < wr.heap.size; omega))]
        exact blk_free hD.of_
      have hkz : (k : Int) < (N : Int) := by omega
      have HG := Lib.hid hgs
      clear hgs
      go_wp2
      go_roundg (N - (k + 1))
      case measure => omega
      case rel => exact ⟨k + 1, by omega, rfl, by go_num, hD.step hlt⟩
    · obtain rfl : k = N := by omega
      go_wp2
      go_ret
      exact ⟨rfl, hD⟩

theorem sound_low {g : Gram} {x : List Int} {M : List (List Nat)} (hs : Sound g x M) : MLow M := fun n i j h => by
  by_cases hn : 0 ≤ n
  · exact (drv_le (hs n i j hn h)).1
  · rw [entry_neg M n i (by omega)] at h
    exact (drv_le (hs 0 i j (by omega) h)).1

section
variable {bm : Nat} {g : Gram} {x : List Int} {A : Option Addr} {c : Nat} {B : Option Addr} {d : Nat} {N : Nat}

/-- the maker while its ends are closed -/
structure MkInv (w wr : World) (bm : Nat) (g : Gram) (x : List Int) (A : Option Addr) (c : Nat) (B : Option Addr) (d N : Nat) (M : List (List Nat)) : Prop where
  away : Away w.heap.size (fun b => b = bm) w wr
  blk : wr.heap[bm]? = some (.cells #[.int .i64 g.terms, .int .i64 g.nons, .int .i64 g.start, .slice A g.rules.length c, .slice B x.length d, .slice (some ⟨w.heap.size + 1, 0, none⟩) N N, .map none, .int .i64 0] 56 (0, 0))
  of_ : wr.heap[w.heap.size + 1]? = some (.cells ((List.range N).map (fun n => (.slice (some ⟨w.heap.size + 2 + n, 0, none⟩) (x.length + 1) (x.length + 1) : Value))).toArray 102 (0, 0))
  row : ∀ n, n < N → wr.heap[w.heap.size + 2 + n]? = some (.cells ((M.getD n []).map (fun v : Nat => Value.int .u32 v)).toArray 103 (0, 0))
  size : w.heap.size + 2 + N ≤ wr.heap.size

theorem MkInv.keep {w wr wr' : World} {M : List (List Nat)} (h : MkInv w wr bm g x A c B d N M) (hb : Below wr.heap.size wr wr') : MkInv w wr' bm g x A c B d N M :=
  have hs := h.size
  ⟨h.away.trans ((Away.ofBelow hb).mono h.away.size (fun _ _ h => h)), blk_below hb (blk_lt h.blk) h.blk, blk_below hb (by omega) h.of_, fun n hn => blk_below hb (by omega) (h.row n hn), Nat.le_trans hs hb.size⟩

theorem MkInv.put {w wr : World} {M : List (List Nat)} (hbm : bm < w.heap.size) (h : MkInv w wr bm g x A c B d N M) (hM : M.length = N) {n : Int} {i v : Nat} :
    MkInv w (wr.setCell ⟨w.heap.size + 2 + n.toNat, i, none⟩ (.int .u32 v)) bm g x A c B d N (putM M n i v) := by
  have hs := h.size
  refine ⟨h.away.trans (Away.setCell _ _ _ _ (.inr (by omega))), ?_, ?_, ?_, by rw [size_setCell]; exact hs⟩
  · rw [heap_set_ne (by omega)]; exact h.blk
  · rw [heap_set_ne (by omega)]; exact h.of_
  · intro k hk
    by_cases e : k = n.toNat
    · subst e
      rw [heap_set (h.row _ hk)]
      congr 2
      apply Array.ext'
      simp only [Array.toList_setIfInBounds, putM, List.getD_eq_getElem?_getD, List.getElem?_set, hM, hk, if_true, Option.getD_some, List.map_set]
    · rw [heap_set_ne (by omega), h.row k hk]
      congr 3
      simp only [putM, List.getD_eq_getElem?_getD, List.getElem?_set, show ¬ n.toNat = k from fun h => e h.symm, if_false]

theorem sl_only {α : Type} {e : Elt α} {v : Value} {l : List α} {w w' : World} (ha : Away w.heap.size (fun b => b = bm) w w') (h : IsSl e (fun b => b ≠ bm) w v l) : IsSl e (fun b => b ≠ bm) w' v l :=
  (h.old.keep (fun b hb => ha.block b hb.2 hb.1) ha.size).weak fun _ hb => hb.1

theorem MkInv.mk_at {w wr : World} {M : List (List Nat)} (hbm : bm < w.heap.size) (h : MkInv w wr bm g x A c B d N M) (hN : g.nons = N) (hs : MShape g x M) (hl : x.length ≤ 12) (hN2 : N ≤ 10)
    (hr : IsSl Elt.rule (fun b => b ≠ bm) w (.slice A g.rules.length c) g.rules) (hx : IsSl Elt.int (fun b => b ≠ bm) w (.slice B x.length d) x) :
    MkAt (fun b => b ≠ bm) wr bm g x M A c B d (some ⟨w.heap.size + 1, 0, none⟩) N (.map none) 0 := by
  have hML : M.length = N := by have := hs.len; omega
  refine ⟨by rw [hML]; exact h.blk, sl_only h.away hr, sl_only h.away hx, ?_⟩
  refine ⟨_, N, by rw [hML], by omega, fun k hk => ⟨w.heap.size + 1, 0, rfl, by omega, blk_lt h.of_, by omega, some ⟨w.heap.size + 2 + k, 0, none⟩, x.length + 1, blk_cell h.of_ ?_, ?_, ?_⟩⟩
  · simp [Elt.sl, show k < N by omega]
    rw [hs.row _ (by simp)]
  · rw [hs.row _ (by simp)]; exact Nat.le_refl _
  · have hrk := h.row k (by omega)
    have e : M.getD k [] = M[k] := by simp [List.getD_eq_getElem?_getD, hk]
    rw [e] at hrk
    refine sl_of_blk (enc := fun n : Nat => Value.int .u32 n) _ (by omega) hrk rfl ?_
    rw [hs.row _ (by simp)]; omega

theorem MkInv.start {w wd w3 : World} (hbm : bm < w.heap.size) (hd : Below w.heap.size w wd) (hsz : wd.heap.size = w.heap.size) (hE : EMade wd w3 (x.length + 1) N N)
    (hb : w3.heap[bm]? = some (.cells #[.int .i64 g.terms, .int .i64 g.nons, .int .i64 g.start, .slice A g.rules.length c, .slice B x.length d, .slice none 0 0, .map none, .int .i64 0] 56 (0, 0))) :
    MkInv w (w3.setCell ⟨bm, 5, none⟩ (.slice (some ⟨w.heap.size + 1, 0, none⟩) N N)) bm g x A c B d N (List.replicate N (List.replicate (x.length + 1) 0)) := by
  have ho := hE.of_
  have hr := hE.row
  have hs := hE.size
  rw [hsz] at ho hs
  refine ⟨(Away.ofBelow (hd.trans (hsz ▸ hE.below))).trans (Away.setCell _ _ _ _ (.inl rfl)), by rw [heap_set hb]; rfl, ?_, ?_, by rw [size_setCell, hs]; exact Nat.le_refl _⟩
  · rw [heap_set_ne (by omega), ho]
    congr 3
    apply List.map_congr_left
    intro n hn
    rw [if_pos (by simpa using hn)]
  · intro n hn
    have := hr n hn
    rw [hsz] at this
    rw [heap_set_ne (by omega), this]
    congr 3
    simp [List.getD_eq_getElem?_getD, hn]

theorem put_same {M : List (List Nat)} {n : Int} {i : Nat} (hn : n.toNat < M.length) (hi : i < (M.getD n.toNat []).length) : putM M n i (entry M n i) = M := by
  unfold putM entry
  have e : M.getD n.toNat [] = M[n.toNat] := by simp [List.getD_eq_getElem?_getD, hn]
  rw [e] at hi ⊢
  apply List.ext_getElem?
  intro k
  rw [List.getElem?_set]
  by_cases hk : n.toNat = k
  · subst hk
    simp only [hn, if_true, List.getElem?_eq_getElem hn]
    congr 1
    apply List.ext_getElem?
    intro j
    rw [List.getElem?_set]
    by_cases hj : i = j
    · subst hj; simp [hi, List.getD_eq_getElem?_getD]
    · simp [hj]
  · simp [hk]
theorem or_same {a v : Nat} (h : ∀ j, a.testBit j = true → v.testBit j = true) : v ||| a = v := by
  apply Nat.eq_of_testBit_eq
  intro j
  rw [Nat.testBit_or]
  cases ha : a.testBit j
  · simp
  · simp [h j ha]

/-- what close leaves -/
def MkEnd (w w' : World) (bm : Nat) (g : Gram) (x : List Int) (A : Option Addr) (c : Nat) (B : Option Addr) (d : Nat) : Prop :=
  ∃ M C q, Away w.heap.size (fun b => b = bm) w w' ∧ MkAt (fun b => b ≠ bm) w' bm g x M A c B d C q (.map none) 0 ∧ MShape g x M ∧ Sound g x M ∧ Closed g x M

set_option maxRecDepth 100000 in
set_option maxHeartbeats 1600000 in
theorem close_any (hv : Valid g) (hm : x.length ≤ 12) (w : World) (hblk : w.heap[bm]? = some (.cells #[.int .i64 g.terms, .int .i64 g.nons, .int .i64 g.start, .slice A g.rules.length c, .slice B x.length d, .slice none 0 0, .map none, .int .i64 0] 56 (0, 0)))
    (hr : IsSl Elt.rule (fun b => b ≠ bm) w (.slice A g.rules.length c) g.rules) (hx : IsSl Elt.int (fun b => b ≠ bm) w (.slice B x.length d) x) :
    Calls Tryz.prog 17 #[.pointer (some ⟨bm, 0, none⟩)] w fun e w' => e = .returned (.tuple #[]) ∧ MkEnd w w' bm g x A c B d := by
  obtain ⟨N, hN⟩ : ∃ N : Nat, g.nons = N := ⟨g.nons.toNat, by have := hv.n1; omega⟩
  have hN10 : N ≤ 10 := by have := hv.n10; omega
  have hbm := blk_lt hblk
  obtain ⟨-, hn⟩ := hr.len
  have hk0 := blk_cell hblk (i := 0) rfl
  have hk1 := blk_cell hblk (i := 1) rfl
  have hk2 := blk_cell hblk (i := 2) rfl
  have hk3 := blk_cell hblk (i := 3) rfl
  have hk4 := blk_cell hblk (i := 4) rfl
  have hem := empty_any g (.slice A g.rules.length c) N hN hN10 B x.length d hm
  unfold gramV at hem
  have HN := Lib.hid hN
  clear hN
  go_enter Tryz.func17, Tryz.ntmps17
  go_wp2_with fail
  go_cut [] (fun wx => MkInv w wx bm g x A c B d N (List.replicate N (List.replicate (x.length + 1) 0)))
  case first =>
    go_region_law (first | (refine step_call rfl 34 Tryz.f34 Tryz.func34 (by kernel_rfl) (by kernel_rfl) [_, _] _ rfl [.agg #[.int .i64 g.terms, .int .i64 g.nons, .int .i64 g.start, .slice A g.rules.length c], .slice B x.length d] rfl _ (hem _) ?_; rintro e3 w3 ⟨rfl, hE⟩; refine ⟨_, rfl, ?_⟩; have hb3 := blk_below hE.below hbm hblk; have hk5 := blk_cell hb3 (i := 5) rfl; have hf5 : w3.frozen? ⟨bm, 5, none⟩ = false := blk_free hb3))
    all_goals (go_wp2_with fail; go_meet; exact MkInv.start hbm ((Below.refl _ _).drew) rfl hE hb3)
  case rest =>
  clear hk0 hk1 hk2 hk3 hk4 hem
  go_wp2
  go_loopg [2] (room (List.replicate N (List.replicate (x.length + 1) 0)) + 1) (fun gk m wr => ∃ M, MkInv w wr bm g x A c B d N M ∧ MShape g x M ∧ Sound g x M ∧ ((m = .bool true ∧ gk = room M + 1) ∨ (m = .bool false ∧ gk = 0 ∧ Closed g x M)))
  case atStart => exact ⟨_, hcut, init_shape g x _ HN.out, init_sound g x _ _, .inl ⟨rfl, rfl⟩⟩
  case round =>
    clear hcut
    obtain ⟨M, hD, hsh, hso, hm2 | hm2⟩ := hrel
    · obtain ⟨rfl, rfl⟩ := hm2
      have hg3 := blk_cell hD.blk (i := 3) rfl
      go_wp2
      clear hg3
      go_loopg [2, 26] g.rules.length (fun gk m i wr => ∃ (q : Nat) (M' : List (List Nat)), q ≤ g.rules.length ∧ gk = g.rules.length - q ∧ i = .int .i64 q ∧ MkInv w wr bm g x A c B d N M' ∧ MShape g x M' ∧ Sound g x M' ∧
        Pass m M M' (∀ e (h : e < g.rules.length), e < q → ∀ i, i ≤ x.length → ClosedR x M g.rules[e] i))
      case atStart => exact ⟨0, M, by omega, by omega, rfl, hD, hsh, hso, .inr ⟨rfl, rfl, fun e h he => by omega⟩⟩
      case round =>
        clear hD hsh hso
        obtain ⟨q, M', hq, rfl, rfl, hD, hsh, hso, hP⟩ := hrel
        obtain ⟨wo, rfl⟩ : ∃ wo : World, wo = wr := ⟨_, rfl⟩
        by_cases hlt : q < g.rules.length
        · obtain ⟨b, o, rfl, hF, hl, hd1, A', c', hd2, hsy⟩ := hr.ruleAt q hlt
          have hc1 := (World.cell?_of_block (w := w) (a := ⟨b, o + q * 2, none⟩) (hD.away.block b hl hF)).trans hd1
          have hc2 := (World.cell?_of_block (w := w) (a := ⟨b, o + q * 2 + 1, none⟩) (hD.away.block b hl hF)).trans hd2
          clear hd1 hd2
          have hok := hv.ok g.rules[q] (by simp)
          have l0 := hok.l0
          have l1 := hok.l1
          have ln := hok.len
          rw [HN.out] at l1
          have hsz := hD.size
          have he5 := blk_cell hD.blk (i := 5) rfl
          have hof : wo.cell? ⟨w.heap.size + 1, g.rules[q].l.toNat, none⟩ = some (.slice (some ⟨w.heap.size + 2 + g.rules[q].l.toNat, 0, none⟩) (x.length + 1) (x.length + 1)) := blk_cell hD.of_ (by simp [show g.rules[q].l.toNat < N by omega])
          have hs1 : w.heap.size + 1 < wo.heap.size := by omega
          have hbo := blk_lt hD.blk
          go_wp2_with fail
          go_quiet (fail)
          go_wp2
          have hD1 : MkInv w ((wo.alloc (.cells #[.int .i64 g.rules[q].l, .slice A' g.rules[q].r.length c'] 99)).drewN nq) bm g x (some ⟨b, o, none⟩) c B d N M' := hD.keep (below_drewN ((Below.refl _ _).alloc (Nat.le_refl _) _) _)
          clear hof hc1 hc2 he5
          go_loopg [2, 39] (x.length + 1) (fun gk m i wr => ∃ (p : Nat) (M2 : List (List Nat)), p ≤ x.length + 1 ∧ gk = x.length + 1 - p ∧ i = .int .i64 p ∧ MkInv w wr bm g x (some ⟨b, o, none⟩) c B d N M2 ∧ MShape g x M2 ∧ Sound g x M2 ∧
            Pass m M M2 ((∀ e (h : e < g.rules.length), e < q → ∀ i, i ≤ x.length → ClosedR x M g.rules[e] i) ∧ ∀ i, i < p → ClosedR x M g.rules[q] i) ∧ wr.heap[wo.heap.size]? = some (.cells #[.int .i64 g.rules[q].l, .slice A' g.rules[q].r.length c'] 99 (0, 0)))
          case atStart =>
            refine ⟨0, M', by omega, by omega, rfl, hD1, hsh, hso, ?_, ?_⟩
            · rcases hP with hP | ⟨h1, h2, h3⟩
              · exact .inl hP
              · exact .inr ⟨h1, h2, h3, fun i hi => by omega⟩
            · rw [drewN_heap, heap_alloc_new]
          case round =>
            clear hD hD1 hsh hso hP
            obtain ⟨p, M2, hp, rfl, rfl, hD, hsh, hso, hP, hrb⟩ := hrel
            by_cases hlt2 : p < x.length + 1
            · have hq1 := blk_cell hrb (i := 1) rfl
              have hrs := hD.size
              have hpz : decide ((p : Int) < (x.length : Int) + 1) = true := by simp only [decide_eq_true_eq]; omega
              have hML : M2.length = N := by have := hsh.len; rw [HN.out] at this; omega
              go_wp2_with fail
              with_reducible refine (run_any (F := fun b => b ≠ bm) (fun b => b ≠ bm) g.rules[q].r A' g.rules[q].r.length c' p wr (hD.mk_at hbm HN.out hsh hm hN10 hr hx) (sl_only hD.away hsy) hm (by omega) (fun y hy => ⟨(hok.syms y hy).n0, fun h => by have := (hok.syms y hy).nn h; rw [HN.out] at this; omega⟩) hsh.row hsh.small (sound_low hso)).mono ?_
              rintro e2 w2 ⟨rfl, hb2⟩
              have hD2 := hD.keep hb2
              have hrb2 := blk_below hb2 (blk_lt hrb) hrb
              have hmem : g.rules[q] ∈ g.rules := by simp
              have hnl : g.rules[q].l.toNat < M2.length := by omega
              have hrl : p < (M2.getD g.rules[q].l.toNat []).length := by
                have e1 : M2.getD g.rules[q].l.toNat [] = M2[g.rules[q].l.toNat] := by simp [List.getD_eq_getElem?_getD, hnl]
                rw [e1, hsh.row _ (by simp)]; omega
              have hsz2 := hD2.size
              have hs2 : w.heap.size + 1 < w2.heap.size := by omega
              have hbm2 := blk_lt hD2.blk
              have hl0 := blk_cell hrb2 (i := 0) rfl
              have he5 := blk_cell hD2.blk (i := 5) rfl
              have hof : w2.cell? ⟨w.heap.size + 1, g.rules[q].l.toNat, none⟩ = some (.slice (some ⟨w.heap.size + 2 + g.rules[q].l.toNat, 0, none⟩) (x.length + 1) (x.length + 1)) := blk_cell hD2.of_ (by simp [show g.rules[q].l.toNat < N by omega])
              have hcell : w2.cell? ⟨w.heap.size + 2 + g.rules[q].l.toNat, p, none⟩ = some (.int .u32 (entry M2 g.rules[q].l p)) := blk_cell (hD2.row _ (by omega)) (by
                simp only [List.getElem?_toArray, List.getElem?_map, entry, List.getElem?_eq_getElem hrl, Option.map_some]
                simp [List.getD_eq_getElem?_getD, List.getElem?_eq_getElem (by simpa [List.getD_eq_getElem?_getD] using hrl)])
              have hfree : w2.frozen? ⟨w.heap.size + 2 + g.rules[q].l.toNat, p, none⟩ = false := blk_free (hD2.row _ (by omega))
              have ha32 := seqEnds_lt hsh.small hm g.rules[q].r (2 ^ p) (pow_lt13 (by omega))
              have hv32 := entry_lt hsh g.rules[q].l p
              have hnot := u32_andNot_nat (seqEnds x M2 g.rules[q].r (2 ^ p)) (entry M2 g.rules[q].l p) ha32 hv32
              have hor := u32_or_nat (entry M2 g.rules[q].l p) (seqEnds x M2 g.rules[q].r (2 ^ p)) hv32 ha32
              have hpx2 : (p : Int) < (x.length : Int) + 1 := by omega
              have hsz3 : w.heap.size ≠ bm := by omega
              have hso2 := sound_put hso hmem l0 (fun y hy => (hok.syms y hy).n0) (by omega) hnl hrl
              have hsh2 := hsh.put (i := p) (or_lt hv32 ha32) hnl
              have hfin : ∀ k, MkInv w ((w2.drewN k).setCell ⟨w.heap.size + 2 + g.rules[q].l.toNat, p, none⟩ (.int .u32 (entry M2 g.rules[q].l p ||| seqEnds x M2 g.rules[q].r (2 ^ p) : Nat))) bm g x (some ⟨b, o, none⟩) c B d N (putM M2 g.rules[q].l p (entry M2 g.rules[q].l p ||| seqEnds x M2 g.rules[q].r (2 ^ p))) := fun k => MkInv.put hbm (hD2.keep (below_drewN (Below.refl _ _) k)) hML
              have hrb3 : ∀ k v, ((w2.drewN k).setCell ⟨w.heap.size + 2 + g.rules[q].l.toNat, p, none⟩ v).heap[wo.heap.size]? = some (.cells #[.int .i64 g.rules[q].l, .slice A' g.rules[q].r.length c'] 99 (0, 0)) := fun k v => by rw [heap_set_ne (by omega)]; exact hrb2
              have hroom : room (putM M2 g.rules[q].l p (entry M2 g.rules[q].l p ||| seqEnds x M2 g.rules[q].r (2 ^ p))) ≤ room M2 := by
                by_cases hz : seqEnds x M2 g.rules[q].r (2 ^ p) &&& (4294967295 - entry M2 g.rules[q].l p) = 0
                · rw [or_same (fun j => andNot_zero ha32 hv32 hz j), put_same hnl hrl]; exact Nat.le_refl _
                · exact Nat.le_of_lt (room_put hnl hrl (andNot_more ha32 hv32 hz) (or_lt hv32 ha32))
              have HO := Lib.hid hor
              clear hor hq1
              rcases hP with ⟨rfl, hP⟩ | ⟨rfl, rfl, h3, h4⟩
              · have hP2 : Pass (.bool true) M (putM M2 g.rules[q].l p (entry M2 g.rules[q].l p ||| seqEnds x M2 g.rules[q].r (2 ^ p))) ((∀ e (h : e < g.rules.length), e < q → ∀ i, i ≤ x.length → ClosedR x M g.rules[e] i) ∧ ∀ i, i < p + 1 → ClosedR x M g.rules[q] i) := .inl ⟨rfl, by omega⟩
                clear hnot
                go_wp2_with fail
                go_quiet (fail)
                go_wp2_with fail
                go_region
                go_wp2
                go_roundg (x.length + 1 - (p + 1))
                case measure => omega
                case rel =>
                  rw [HO.out]
                  exact ⟨p + 1, _, by omega, rfl, by go_num, hfin _, hsh2, hso2, hP2, hrb3 _ _⟩
              · by_cases hz : seqEnds x M2 g.rules[q].r (2 ^ p) &&& (4294967295 - entry M2 g.rules[q].l p) = 0
                · have hzz : (bits BinOp.andNot IntKind.u32 (seqEnds x M2 g.rules[q].r (2 ^ p) : Nat) (entry M2 g.rules[q].l p : Nat) != 0) = false := by rw [hnot, hz]; rfl
                  have hcr : ClosedR x M2 g.rules[q] p := fun j => andNot_zero ha32 hv32 hz j
                  have hP2 : Pass (.bool false) M2 (putM M2 g.rules[q].l p (entry M2 g.rules[q].l p ||| seqEnds x M2 g.rules[q].r (2 ^ p))) ((∀ e (h : e < g.rules.length), e < q → ∀ i, i ≤ x.length → ClosedR x M2 g.rules[e] i) ∧ ∀ i, i < p + 1 → ClosedR x M2 g.rules[q] i) := by
                    rw [or_same (fun j => andNot_zero ha32 hv32 hz j), put_same hnl hrl]
                    refine .inr ⟨rfl, rfl, h3, fun i hi => ?_⟩
                    by_cases ei : i = p
                    · subst ei; exact hcr
                    · exact h4 i (by omega)
                  clear hnot hz h3 h4 hcr
                  go_wp2_with fail
                  go_quiet (fail)
                  go_wp2_with fail
                  go_region
                  go_wp2
                  go_roundg (x.length + 1 - (p + 1))
                  case measure => omega
                  case rel =>
                    rw [HO.out]
                    exact ⟨p + 1, _, by omega, rfl, by go_num, hfin _, hsh2, hso2, hP2, hrb3 _ _⟩
                · have hzz : (bits BinOp.andNot IntKind.u32 (seqEnds x M2 g.rules[q].r (2 ^ p) : Nat) (entry M2 g.rules[q].l p : Nat) != 0) = true := by
                    rw [hnot, bne_iff_ne]; intro h; exact hz (by omega)
                  have hP2 : Pass (.bool true) M2 (putM M2 g.rules[q].l p (entry M2 g.rules[q].l p ||| seqEnds x M2 g.rules[q].r (2 ^ p))) ((∀ e (h : e < g.rules.length), e < q → ∀ i, i ≤ x.length → ClosedR x M2 g.rules[e] i) ∧ ∀ i, i < p + 1 → ClosedR x M2 g.rules[q] i) :=
                    .inl ⟨rfl, room_put hnl hrl (andNot_more ha32 hv32 hz) (or_lt hv32 ha32)⟩
                  clear hnot hz h3 h4
                  go_wp2_with fail
                  go_quiet (fail)
                  go_wp2_with fail
                  go_region
                  go_wp2
                  go_roundg (x.length + 1 - (p + 1))
                  case measure => omega
                  case rel =>
                    rw [HO.out]
                    exact ⟨p + 1, _, by omega, rfl, by go_num, hfin _, hsh2, hso2, hP2, hrb3 _ _⟩
            · obtain rfl : p = x.length + 1 := by omega
              have hP2 : Pass u2 M M2 (∀ e (h : e < g.rules.length), e < q + 1 → ∀ i, i ≤ x.length → ClosedR x M g.rules[e] i) := by
                rcases hP with hP | ⟨h1, h2, h3, h4⟩
                · exact .inl hP
                · refine .inr ⟨h1, h2, fun e he hq i hi => ?_⟩
                  by_cases eq : e = q
                  · subst eq; exact h4 i (by omega)
                  · exact h3 e he (by omega) i hi
              clear hP
              go_wp2
              go_roundg (g.rules.length - (q + 1))
              case measure => omega
              case rel => exact ⟨q + 1, M2, by omega, rfl, by go_num, hD, hsh, hso, hP2⟩
        · obtain rfl : q = g.rules.length := by omega
          rcases hP with ⟨rfl, hP⟩ | ⟨rfl, rfl, hP⟩
          · go_wp2
            go_roundg (room M' + 1)
            case measure => omega
            case rel => exact ⟨M', hD, hsh, hso, .inl ⟨rfl, rfl⟩⟩
          · go_wp2
            go_roundg 0
            case measure => omega
            case rel => exact ⟨M', hD, hsh, hso, .inr ⟨rfl, rfl, fun r hr i hi => by
              obtain ⟨e, he, rfl⟩ := List.getElem_of_mem hr
              exact hP e he he i hi⟩⟩
    · obtain ⟨rfl, rfl, hcl⟩ := hm2
      go_wp2
      refine bodyPost_end (v := .tuple #[]) (by kernel_rfl) rfl ?_
      exact ⟨rfl, M, _, _, hD.away, hD.mk_at hbm HN.out hsh hm hN10 hr hx, hsh, hso, hcl⟩
end
end Go.Proofs.YtdbkbkopcnkgcaaGreat

open Go Go.RowKit
namespace Go.Proofs.YtdbkbkopcnkgcaaGreat

theorem ends_unique {g : Gram} {x : List Int} {M M' : List (List Nat)} (h : MShape g x M) (hs : Sound g x M) (hc : Closed g x M) (h' : MShape g x M') (hs' : Sound g x M') (hc' : Closed g x M') : M = M' := by
  have hl := h.len
  have hl' := h'.len
  have hlen : M.length = M'.length := by omega
  have he : ∀ n : Nat, ∀ i : Nat, entry M n i = entry M' n i := fun n i => by
    apply Nat.eq_of_testBit_eq
    intro j
    have a := ends_iff hs hc n (by omega) i j
    have b := ends_iff hs' hc' n (by omega) i j
    cases h1 : (entry M n i).testBit j <;> cases h2 : (entry M' n i).testBit j <;> simp_all
  apply List.ext_getElem hlen
  intro n h1 h2
  have r1 := h.row M[n] (by simp)
  have r2 := h'.row M'[n] (by simp)
  apply List.ext_getElem (by omega)
  intro i h3 h4
  have := he n i
  simpa [entry, List.getD_eq_getElem?_getD, h1, h2, h3, h4] using this

/-- the ends of a word -/
def IsM (g : Gram) (x : List Int) (M : List (List Nat)) : Prop := MShape g x M ∧ Sound g x M ∧ Closed g x M
theorem IsM.unique {g : Gram} {x : List Int} {M M' : List (List Nat)} (h : IsM g x M) (h' : IsM g x M') : M = M' := ends_unique h.1 h.2.1 h.2.2 h'.1 h'.2.1 h'.2.2

/-- what Of leaves -/
def OfEnd (w w' : World) (e : Ending) (g : Gram) (x : List Int) : Prop :=
  ∃ M N cn, IsM g x M ∧ e = .returned (.tuple #[.agg #[.slice N (madeF g x M).1.nodes.length cn, .int .i64 (madeF g x M).1.root], .int .i64 (madeF g x M).2]) ∧ Below w.heap.size w w' ∧ IsSl Elt.node (fun b => w.heap.size ≤ b) w' (.slice N (madeF g x M).1.nodes.length cn) (madeF g x M).1.nodes

section
variable {g : Gram} {x : List Int} {A : Option Addr} {c : Nat} {B : Option Addr} {d : Nat}

set_option maxRecDepth 100000 in
set_option maxHeartbeats 1600000 in
theorem of_any (F : Nat → Prop) (hv : Valid g) (hm : x.length ≤ 12) (w : World) (hc : g.rules.length ≤ c) (ho : OkWord g x)
    (hr : IsSl Elt.rule F w (.slice A g.rules.length c) g.rules) (hx : IsSl Elt.int F w (.slice B x.length d) x) :
    Calls Tryz.prog 6 #[gramV g (.slice A g.rules.length c), .slice B x.length d] w fun e w' => OfEnd w w' e g x := by
  unfold gramV
  go_enter Tryz.func6, Tryz.ntmps6
  go_wp2_with fail
  have hb2 : Below w.heap.size w ((w.alloc (.cells #[.int .i64 g.terms, .int .i64 g.nons, .int .i64 g.start, .slice A g.rules.length c] 25)).alloc (.cells #[.slice none 0 0, .int .i64 0] 31)) := ((Below.refl _ _).alloc (Nat.le_refl _) _).alloc (by rw [World.size_alloc]; omega) _
  have hacc := accepts_any F g A _ c x B _ d _ (hr.below hb2) hv hc (hx.below hb2) ho hm
  unfold gramV at hacc
  with_reducible refine hacc.mono ?_
  rintro e3 w3 ⟨whole, rfl, -, hb3⟩
  have hw2 : ((w.alloc (.cells #[.int .i64 g.terms, .int .i64 g.nons, .int .i64 g.start, .slice A g.rules.length c] 25)).alloc (.cells #[.slice none 0 0, .int .i64 0] 31)).heap[w.heap.size]? = some (.cells #[.int .i64 g.terms, .int .i64 g.nons, .int .i64 g.start, .slice A g.rules.length c] 25 (0, 0)) := by
    rw [Below.heap_alloc _ _ _ (by simp), heap_alloc_new]
  have hw3 : ((w.alloc (.cells #[.int .i64 g.terms, .int .i64 g.nons, .int .i64 g.start, .slice A g.rules.length c] 25)).alloc (.cells #[.slice none 0 0, .int .i64 0] 31)).heap[w.heap.size + 1]? = some (.cells #[.slice none 0 0, .int .i64 0] 31 (0, 0)) := by
    rw [show w.heap.size + 1 = (w.alloc (.cells #[.int .i64 g.terms, .int .i64 g.nons, .int .i64 g.start, .slice A g.rules.length c] 25)).heap.size by simp, heap_alloc_new]
  have hbx3 := blk_below hb3 (blk_lt hw2) hw2
  have hfo3 := blk_below hb3 (blk_lt hw3) hw3
  have hb3' : Below w.heap.size w w3 := hb2.trans (hb3.mono hb2.size)
  clear hw2 hw3 hb3 hacc hb2
  have k0 := blk_cell hbx3 (i := 0) rfl
  have k1 := blk_cell hbx3 (i := 1) rfl
  have k2 := blk_cell hbx3 (i := 2) rfl
  have k3 := blk_cell hbx3 (i := 3) rfl
  have hb4 : Below w.heap.size w (w3.alloc (.cells #[.int .i64 g.terms, .int .i64 g.nons, .int .i64 g.start, .slice A g.rules.length c, .slice B x.length d, .slice none 0 0, .map none, .int .i64 0] 56)) := hb3'.alloc hb3'.size _
  have hmk4 := heap_alloc_new w3 (.cells #[.int .i64 g.terms, .int .i64 g.nons, .int .i64 g.start, .slice A g.rules.length c, .slice B x.length d, .slice none 0 0, .map none, .int .i64 0] 56)
  have hfo4 := (Below.heap_alloc w3 (.cells #[.int .i64 g.terms, .int .i64 g.nons, .int .i64 g.start, .slice A g.rules.length c, .slice B x.length d, .slice none 0 0, .map none, .int .i64 0] 56) _ (blk_lt hfo3)).trans hfo3
  have hsz3 := blk_lt hfo3
  have hs3 := hb3'.size
  have hcl := close_any (bm := w3.heap.size) hv hm _ hmk4 (((hr.old.below hb4).weak fun b hb => by omega)) (((hx.old.below hb4).weak fun b hb => by omega))
  go_wp2_with fail
  with_reducible refine hcl.mono ?_
  rintro e5 w5 ⟨rfl, M, C, q, ha5, hmk5, hsh, hso, hcd⟩
  have hfo5 := (ha5.block _ (blk_lt hfo4) (by omega)).trans hfo4
  have hmd := maker_made_any hv hm hsh (sound_low hso) w5 hmk5
  clear k0 k1 k2 k3 hcl
  go_wp2_with fail
  with_reducible refine hmd.mono ?_
  rintro e6 w6 ⟨N, cn, rfl, ha6, hsl6⟩
  have hfo6 := (ha6.block _ (blk_lt hfo5) (by omega)).trans hfo5
  have ha46 : Away w.heap.size (fun b => b = w3.heap.size) w w6 := ((Away.ofBelow hb4).trans (ha5.mono hb4.size (fun _ _ h => h))).trans (ha6.mono (Nat.le_trans hb4.size ha5.size) (fun _ _ h => h))
  have hg0 : w6.frozen? ⟨w.heap.size + 1, 0, none⟩ = false := blk_free hfo6
  have hg1 : w6.frozen? ⟨w.heap.size + 1, 1, none⟩ = false := blk_free hfo6
  have hd0 := blk_cell hfo6 (i := 0) rfl
  have hd1 := blk_cell hfo6 (i := 1) rfl
  have hs56 := ha6.size
  have hs45 := ha5.size
  rw [World.size_alloc] at hs45
  have HFF := Lib.hid (show madeF g x M = madeF g x M from rfl)
  have hfin : ∀ u v, ((w6.setCell ⟨w.heap.size + 1, 0, none⟩ u).setCell ⟨w.heap.size + 1, 1, none⟩ v).heap[w.heap.size + 1]? = some (.cells #[u, v] 31 (0, 0)) := fun u v => by
    rw [heap_set (heap_set hfo6 _ _)]; rfl
  go_wp2_with fail
  refine bodyPost_ret (results_cell_tmp rfl rfl (run_loadVar_row _ (w.heap.size + 1) 31 31 #[.slice N (madeF g x M).1.nodes.length cn, .int .i64 (madeF g x M).1.root] (0, 0) _ (hfin _ _) Tryz.underlying31 rfl (by kernel_rfl))) rfl ?_
  refine ⟨M, N, cn, ⟨hsh, hso, hcd⟩, rfl, ?_, ?_⟩
  · exact (((ha46.below fun j hj => by omega).setCell (by show w.heap.size ≤ w.heap.size + 1; omega) _).setCell (by show w.heap.size ≤ w.heap.size + 1; omega) _)
  · exact (hsl6.keep (fun b hb => by rw [heap_set_ne (by omega), heap_set_ne (by omega)]) (by rw [size_setCell, size_setCell]; exact Nat.le_refl _)).weak fun b hb => by omega
end
end Go.Proofs.YtdbkbkopcnkgcaaGreat
