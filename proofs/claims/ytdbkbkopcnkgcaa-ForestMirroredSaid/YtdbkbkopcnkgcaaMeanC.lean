import Derived.Test.YtdbkbkopcnkgcaaMeanB
import Derived.BigRegion
import Derived.Deep.RegionWith
import Derived.StillTailTactics
open Go Go.RowKit
namespace Go.Proofs.Ytdbkbkopcnkgcaa

theorem Try.infoU32s : (Try.prog.info? 60).map (fun i => (i.zero, i.size, i.bytes)) = some (some (.slice none 0 0), 1, 24) := by kernel_rfl
theorem Try.infoU32 : (Try.prog.info? 61).map (fun i => (i.zero, i.size, i.bytes)) = some (some (.int .u32 0), 1, 4) := by kernel_rfl

theorem wrap_u32 (x : Int) : IntKind.u32.wrap x = x % 4294967296 := by
  simp [IntKind.wrap, IntKind.bits, IntKind.signed]

theorem he_below {F : Nat → Prop} {w w' : World} {be : Nat} {g : Gram} {x : List Int} {M : List (List Nat)} {A : Option Addr} {n c : Nat} {B : Option Addr} {m d : Nat} {C : Option Addr} {p q : Nat}
    (he : IsEnds F w be g x M A n c B m d C p q) (hb : Below w.heap.size w w') : IsEnds F w' be g x M A n c B m d C p q := by
  have hlt := cell_lt he.c0
  exact ⟨he.fb, (hb.cell (p := ⟨be, 0, none⟩) hlt).trans he.c0, (hb.cell (p := ⟨be, 1, none⟩) hlt).trans he.c1, (hb.cell (p := ⟨be, 2, none⟩) hlt).trans he.c2, (hb.cell (p := ⟨be, 3, none⟩) hlt).trans he.c3, (hb.cell (p := ⟨be, 4, none⟩) hlt).trans he.c4, (hb.cell (p := ⟨be, 5, none⟩) hlt).trans he.c5, he.rules.below hb, he.word.below hb, he.mat.below hb⟩

theorem is_any (F : Nat → Prop) (be : Nat) (g : Gram) (x : List Int) (M : List (List Nat)) (A : Option Addr) (n c : Nat) (B : Option Addr) (m d : Nat) (C : Option Addr) (p q : Nat) (y : Sym) (i j : Nat) (w : World)
    (he : IsEnds F w be g x M A n c B m d C p q) (hl : x.length ≤ 12) (hy : 0 ≤ y.n) (hyn : y.t = false → y.n < M.length) (hM : ∀ r ∈ M, r.length = x.length + 1) (hM2 : ∀ r ∈ M, ∀ v ∈ r, v < 2 ^ 32) (hi : i ≤ 12) (hj : j ≤ 12) :
    Calls Try.prog 78 #[.pointer (some ⟨be, 0, none⟩), symV y, .int .i64 i, .int .i64 j] w fun e w' => e = .returned (.bool ((aftTo x M y (2 ^ i) (x.length + 1)).testBit j)) ∧ Below w.heap.size w w' := by
  have hb1 : Below w.heap.size w (w.alloc (.cells #[.bool y.t, .int .i64 y.n] 37)) := (Below.refl _ _).alloc (Nat.le_refl _) _
  unfold symV
  go_enter Try.func78, Try.ntmps78
  go_wp2_with fail
  have hp : IntKind.u32.wrap ((2 : Int) ^ i) = ((2 ^ i : Nat) : Int) := (wrap_u32 _).trans (pow_mod13 (by omega))
  have HP := Lib.hid hp
  clear hp
  go_region_with ((rw [HP.out]; go_at_call 105; refine (after_any F be g x M A n c B m d C p q y (2 ^ i) _ (he_below he hb1.drew) hl hy hyn hM hM2 (pow_lt13 (by omega))).mono ?_; rintro e w' ⟨rfl, hb⟩))
  go_wp2
  go_ret
  exact ⟨ret_bool (bit_test1 _ j (aftTo_lt x M y _ hM2 _ (by omega))), (hb1.drew).trans (hb.mono (by simp))⟩

structure DMade (w wr : World) (g : Gram) (rs ws : Value) (L N k : Nat) : Prop where
  below : Below w.heap.size w wr
  gram : wr.heap[w.heap.size]? = some (.cells #[.int .i64 g.terms, .int .i64 N, .int .i64 g.start, rs] 25 (0, 0))
  ends : wr.heap[w.heap.size + 2]? = some (.cells #[.int .i64 g.terms, .int .i64 N, .int .i64 g.start, rs, ws, .slice (some ⟨w.heap.size + 1, 0, none⟩) N N] 187 (0, 0))
  of_ : wr.heap[w.heap.size + 1]? = some (.cells ((List.range N).map (fun n => if n < k then (.slice (some ⟨w.heap.size + 3 + n, 0, none⟩) L L : Value) else .slice none 0 0)).toArray 60 (0, 0))
  row : ∀ n, n < k → wr.heap[w.heap.size + 3 + n]? = some (.cells (List.replicate L (.int .u32 0)).toArray 61 (0, 0))
  size : wr.heap.size = w.heap.size + 3 + k

theorem DMade.step {w wr : World} {g : Gram} {rs ws : Value} {L N k : Nat} (h : DMade w wr g rs ws L N k) (hk : k < N) :
    DMade w ((wr.alloc (.cells (madeCells #[.int .u32 0] L) 61)).setCell ⟨w.heap.size + 1, k, none⟩ (.slice (some ⟨wr.heap.size, 0, none⟩) L L)).drew g rs ws L N (k + 1) := by
  have hs := h.size
  have hold : ∀ b, b < wr.heap.size → (wr.alloc (.cells (madeCells #[.int .u32 0] L) 61)).heap[b]? = wr.heap[b]? := fun b hb => Below.heap_alloc wr _ b hb
  refine ⟨?_, ?_, ?_, ?_, ?_, ?_⟩
  · exact ((h.below.alloc h.below.size _).setCell (by show w.heap.size ≤ w.heap.size + 1; omega) _).drew
  · rw [drew_heap, heap_set_ne (by omega), hold _ (by omega)]; exact h.gram
  · rw [drew_heap, heap_set_ne (by omega), hold _ (by omega)]; exact h.ends
  · rw [drew_heap, heap_set (by rw [hold _ (by omega)]; exact h.of_)]
    congr 2
    apply Array.ext'
    simp only [Array.toList_setIfInBounds]
    apply List.ext_getElem?
    intro i
    rw [List.getElem?_set]
    by_cases hi : k = i
    · subst hi; simp [hk, hs]
    · simp only [hi, if_false, List.getElem?_map]
      cases hr : (List.range N)[i]? with
      | none => rfl
      | some v =>
        have hv : v = i := by
          obtain ⟨_, h2⟩ := List.getElem?_eq_some_iff.1 hr
          simp at h2; exact h2.symm
        subst hv
        simp only [Option.map_some]
        by_cases h3 : v < k
        · rw [if_pos h3, if_pos (by omega)]
        · rw [if_neg h3, if_neg (by omega)]
  · intro n hn
    rw [drew_heap, heap_set_ne (by omega)]
    by_cases e : n = k
    · subst e
      rw [← hs, heap_alloc_new, made_one]
    · rw [hold _ (by omega)]; exact h.row n (by omega)
  · rw [drew_heap, size_setCell, World.size_alloc, hs]; omega

theorem DMade.start (w : World) (g : Gram) (rs ws : Value) (L N : Nat) {wr : World} (hw : wr.heap = (((w.alloc (.cells #[.int .i64 g.terms, .int .i64 N, .int .i64 g.start, rs] 25)).alloc (.cells (madeCells #[.slice none 0 0] N) 60)).alloc (.cells #[.int .i64 g.terms, .int .i64 N, .int .i64 g.start, rs, ws, .slice (some ⟨w.heap.size + 1, 0, none⟩) N N] 187)).heap) (hb : Below w.heap.size w wr) :
    DMade w wr g rs ws L N 0 := by
  have e1 : (w.alloc (.cells #[.int .i64 g.terms, .int .i64 N, .int .i64 g.start, rs] 25)).heap.size = w.heap.size + 1 := World.size_alloc _ _
  have e2 : ((w.alloc (.cells #[.int .i64 g.terms, .int .i64 N, .int .i64 g.start, rs] 25)).alloc (.cells (madeCells #[.slice none 0 0] N) 60)).heap.size = w.heap.size + 2 := by rw [World.size_alloc, e1]
  refine ⟨hb, ?_, ?_, ?_, ?_, ?_⟩
  · rw [hw, Below.heap_alloc _ _ _ (by omega), Below.heap_alloc _ _ _ (by omega), heap_alloc_new]
  · rw [hw, ← e2, heap_alloc_new]
  · rw [hw, Below.heap_alloc _ _ _ (by omega), ← e1, heap_alloc_new, made_one]
    congr 2
    apply Array.ext'
    simp only [Nat.not_lt_zero, if_false]
    apply List.ext_getElem <;> simp
  · intro n hn; omega
  · rw [hw, World.size_alloc, e2]

/-- the parser's state in memory -/
structure DInv (w wr : World) (g : Gram) (rs ws : Value) (L N : Nat) (M : List (List Nat)) : Prop where
  below : Below w.heap.size w wr
  gram : wr.heap[w.heap.size]? = some (.cells #[.int .i64 g.terms, .int .i64 N, .int .i64 g.start, rs] 25 (0, 0))
  ends : wr.heap[w.heap.size + 2]? = some (.cells #[.int .i64 g.terms, .int .i64 N, .int .i64 g.start, rs, ws, .slice (some ⟨w.heap.size + 1, 0, none⟩) N N] 187 (0, 0))
  of_ : wr.heap[w.heap.size + 1]? = some (.cells ((List.range N).map (fun n => (.slice (some ⟨w.heap.size + 3 + n, 0, none⟩) L L : Value))).toArray 60 (0, 0))
  row : ∀ n, n < N → wr.heap[w.heap.size + 3 + n]? = some (.cells ((M.getD n []).map (fun v : Nat => Value.int .u32 v)).toArray 61 (0, 0))
  size : w.heap.size + 3 + N ≤ wr.heap.size

theorem DMade.done {w wr : World} {g : Gram} {rs ws : Value} {L N : Nat} (h : DMade w wr g rs ws L N N) : DInv w wr g rs ws L N (List.replicate N (List.replicate L 0)) := by
  refine ⟨h.below, h.gram, h.ends, ?_, ?_, by rw [h.size]; exact Nat.le_refl _⟩
  · rw [h.of_]
    congr 3
    apply List.map_congr_left
    intro n hn
    rw [if_pos (by simpa using hn)]
  · intro n hn
    rw [h.row n hn]
    congr 3
    simp [List.getD_eq_getElem?_getD, hn]

theorem DInv.keep {w wr wr' : World} {g : Gram} {rs ws : Value} {L N : Nat} {M : List (List Nat)} (h : DInv w wr g rs ws L N M) (hb : Below wr.heap.size wr wr') : DInv w wr' g rs ws L N M :=
  have hs := h.size
  ⟨h.below.trans (hb.mono h.below.size), blk_below hb (by omega) h.gram, blk_below hb (by omega) h.ends, blk_below hb (by omega) h.of_, fun n hn => blk_below hb (by omega) (h.row n hn), Nat.le_trans hs hb.size⟩

theorem DInv.isEnds {w wr : World} {g : Gram} {L N : Nat} {M : List (List Nat)} {x : List Int} {A : Option Addr} {n c : Nat} {B : Option Addr} {m d : Nat} {F : Nat → Prop} (h : DInv w wr g (.slice A n c) (.slice B m d) L N M) (hN : g.nons = N) (hs : MShape g x M)
    (hL : L = x.length + 1) (hl : x.length ≤ 12) (hr : IsSl Elt.rule F w (.slice A n c) g.rules) (hx : IsSl Elt.int F w (.slice B m d) x) (hN2 : N ≤ 10) :
    IsEnds (fun _ => True) wr (w.heap.size + 2) g x M A n c B m d (some ⟨w.heap.size + 1, 0, none⟩) N N := by
  have hML : M.length = N := by have := hs.len; omega
  refine ⟨trivial, blk_cell h.ends rfl, by rw [hN]; exact blk_cell h.ends rfl, blk_cell h.ends rfl, blk_cell h.ends rfl, blk_cell h.ends rfl, blk_cell h.ends rfl, (hr.below h.below).weak (fun _ _ => trivial), (hx.below h.below).weak (fun _ _ => trivial), ?_⟩
  refine ⟨_, N, by rw [hML], by omega, fun k hk => ⟨w.heap.size + 1, 0, rfl, trivial, blk_lt h.of_, trivial, some ⟨w.heap.size + 3 + k, 0, none⟩, L, blk_cell h.of_ ?_, ?_, ?_⟩⟩
  · simp [Elt.sl, show k < N by omega]
    rw [hL, hs.row _ (by simp)]
  · rw [hL, hs.row _ (by simp)]; exact Nat.le_refl _
  · have hrk := h.row k (by omega)
    have e : M.getD k [] = M[k] := by simp [List.getD_eq_getElem?_getD, hk]
    rw [e] at hrk
    refine sl_of_blk (enc := fun n : Nat => Value.int .u32 n) _ trivial hrk rfl ?_
    rw [hs.row _ (by simp)]; omega

theorem DInv.put {w wr : World} {g : Gram} {rs ws : Value} {L N : Nat} {M : List (List Nat)} (h : DInv w wr g rs ws L N M) (hM : M.length = N) {n : Int} {i v : Nat} (_hn : n.toNat < N) :
    DInv w (wr.setCell ⟨w.heap.size + 3 + n.toNat, i, none⟩ (.int .u32 v)) g rs ws L N (putM M n i v) := by
  have hs := h.size
  refine ⟨h.below.setCell (by show w.heap.size ≤ w.heap.size + 3 + n.toNat; omega) _, ?_, ?_, ?_, ?_, by rw [size_setCell]; exact hs⟩
  · rw [heap_set_ne (by omega)]; exact h.gram
  · rw [heap_set_ne (by omega)]; exact h.ends
  · rw [heap_set_ne (by omega)]; exact h.of_
  · intro k hk
    by_cases e : k = n.toNat
    · subst e
      rw [heap_set (h.row _ hk)]
      congr 2
      apply Array.ext'
      simp only [Array.toList_setIfInBounds, putM, List.getD_eq_getElem?_getD, List.getElem?_set, hM, hk, if_true, Option.getD_some, List.map_set]
    · rw [heap_set_ne (by omega), h.row k hk]
      congr 3
      simp only [putM, List.getD_eq_getElem?_getD, List.getElem?_set, show ¬ n.toNat = k from fun h => e h.symm, if_false]

/-- one pass over the rules: something new was found, or nothing, and what was looked at is closed -/
def Pass (m : Value) (M0 M : List (List Nat)) (P : Prop) : Prop := (m = .bool true ∧ room M < room M0) ∨ (m = .bool false ∧ M = M0 ∧ P)

theorem init_shape (g : Gram) (x : List Int) (N : Nat) (hN : g.nons = N) : MShape g x (List.replicate N (List.replicate (x.length + 1) 0)) := by
  refine ⟨by simp [hN], ?_, ?_⟩
  · intro r hr; rw [List.eq_of_mem_replicate hr]; simp
  · intro r hr v hv; rw [List.eq_of_mem_replicate hr] at hv; rw [List.eq_of_mem_replicate hv]; omega
theorem entry_init (N L : Nat) (n : Int) (i : Nat) : entry (List.replicate N (List.replicate L 0)) n i = 0 := by
  unfold entry
  simp only [List.getD_eq_getElem?_getD, List.getElem?_replicate]
  split <;> simp [List.getElem?_replicate]
  split <;> simp
theorem init_sound (g : Gram) (x : List Int) (N L : Nat) : Sound g x (List.replicate N (List.replicate L 0)) := by
  intro n i j _ h
  rw [entry_init] at h
  simp at h

/-- what derived leaves -/
structure Derived (w wr : World) (g : Gram) (x : List Int) (A : Option Addr) (n c : Nat) (B : Option Addr) (m d : Nat) (be : Nat) : Prop where
  below : Below w.heap.size w wr
  ends : ∃ M C p q, IsEnds (fun _ => True) wr be g x M A n c B m d C p q ∧ MShape g x M ∧ Sound g x M ∧ Closed g x M

set_option maxRecDepth 100000 in
set_option maxHeartbeats 1600000 in
theorem derived_any (F : Nat → Prop) (g : Gram) (A : Option Addr) (n c : Nat) (x : List Int) (B : Option Addr) (m d : Nat) (w : World) (hr : IsSl Elt.rule F w (.slice A n c) g.rules) (hv : Valid g)
    (hx : IsSl Elt.int F w (.slice B m d) x) (hm : x.length ≤ 12) :
    Calls Try.prog 77 #[gramV g (.slice A n c), .slice B m d] w fun e w' => ∃ be : Nat, e = .returned (.pointer (some ⟨be, 0, none⟩)) ∧ Derived w w' g x A n c B m d be := by
  obtain ⟨rfl, hn⟩ := hr.len
  obtain ⟨rfl, hn2⟩ := hx.len
  obtain ⟨N, hN⟩ : ∃ N : Nat, g.nons = N := ⟨g.nons.toNat, by have := hv.n1; omega⟩
  have hN10 : N ≤ 10 := by have := hv.n10; omega
  have hmk := run_make_row' (P := Try.prog) 57 60 (.slice none 0 0) 24 Try.underlying57 Try.infoU32s rfl .i64 .i64 N (by omega) (by omega)
  unfold gramV
  rw [hN]
  have HN := Lib.hid hN
  clear hN
  go_enter Try.func77, Try.ntmps77
  go_wp2_with fail
  go_region
  go_wp2
  have hmk2 := run_make_row' (P := Try.prog) 60 61 (.int .u32 0) 4 Try.underlying60 Try.infoU32 rfl .i64 .i64 (x.length + 1) (by omega) (by omega)
  simp only [Int.natCast_add, Int.natCast_one] at hmk2
  clear hmk
  go_loopg [26] N (fun gk i wr => ∃ k : Nat, k ≤ N ∧ gk = N - k ∧ i = .int .i64 k ∧ DMade w wr g (.slice A g.rules.length c) (.slice B x.length d) (x.length + 1) N k)
  case atStart =>
    refine ⟨0, by omega, by omega, rfl, DMade.start w g _ _ _ N ?_ ?_⟩
    · rfl
    · exact ((((Below.refl _ _).alloc (Nat.le_refl _) _).alloc (by simp) _).alloc (by simp; omega) _).drew
  case round =>
    obtain ⟨k, hk, rfl, rfl, hD⟩ := hrel
    by_cases hlt : k < N
    · have hgs := hD.size
      have he5 := blk_cell hD.ends (i := 5) rfl
      have he5a : ∀ o, (wr.alloc o).cell? ⟨w.heap.size + 2, 5, none⟩ = some (.slice (some ⟨w.heap.size + 1, 0, none⟩) N N) := fun o => by
        rw [World.cell?_alloc_old _ _ _ (by show w.heap.size + 2 ≠ wr.heap.size; omega)]
        exact he5
      have hst1 : ∀ o, (wr.alloc o).cell? ⟨w.heap.size + 1, k, none⟩ = some (.slice none 0 0) := fun o => by
        rw [World.cell?_alloc_old _ _ _ (by show w.heap.size + 1 ≠ wr.heap.size; omega)]
        exact blk_cell hD.of_ (by simp [hlt])
      have hst2 : ∀ o, (wr.alloc o).frozen? ⟨w.heap.size + 1, k, none⟩ = false := fun o => by
        rw [World.frozen?_of_block (w := wr) (Below.heap_alloc wr o _ (by show w.heap.size + 1 < wr.heap.size; omega))]
        exact blk_free hD.of_
      have hkz : (k : Int) < (N : Int) := by omega
      have HG := Lib.hid hgs
      clear hgs
      go_wp2_with fail
      go_region
      go_wp2
      go_roundg (N - (k + 1))
      case measure => omega
      case rel => exact ⟨k + 1, by omega, rfl, by go_num, hD.step hlt⟩
    · obtain rfl : k = N := by omega
      clear hlt hmk2
      have hD0 := hD.done
      go_wp2
      go_loopg [7] (room (List.replicate k (List.replicate (x.length + 1) 0)) + 1) (fun gk m wr => ∃ M, DInv w wr g (.slice A g.rules.length c) (.slice B x.length d) (x.length + 1) k M ∧ MShape g x M ∧ Sound g x M ∧ ((m = .bool true ∧ gk = room M + 1) ∨ (m = .bool false ∧ gk = 0 ∧ Closed g x M)))
      case atStart => exact ⟨_, hD0, init_shape g x _ HN.out, init_sound g x _ _, .inl ⟨rfl, rfl⟩⟩
      case round =>
        clear hD0 hD
        obtain ⟨M, hD, hsh, hso, hm | hm⟩ := hrel
        · obtain ⟨rfl, rfl⟩ := hm
          have hg3 := blk_cell hD.gram (i := 3) rfl
          go_wp2
          clear hg3
          go_loopg [7, 44] g.rules.length (fun gk m i wr => ∃ (q : Nat) (M' : List (List Nat)), q ≤ g.rules.length ∧ gk = g.rules.length - q ∧ i = .int .i64 q ∧ DInv w wr g (.slice A g.rules.length c) (.slice B x.length d) (x.length + 1) k M' ∧ MShape g x M' ∧ Sound g x M' ∧
            Pass m M M' (∀ e (h : e < g.rules.length), e < q → ∀ i, i ≤ x.length → ClosedR x M g.rules[e] i))
          case atStart => exact ⟨0, M, by omega, by omega, rfl, hD, hsh, hso, .inr ⟨rfl, rfl, fun e h he => by omega⟩⟩
          case round =>
            clear hD hsh hso
            obtain ⟨q, M', hq, rfl, rfl, hD, hsh, hso, hP⟩ := hrel
            obtain ⟨wo, rfl⟩ : ∃ wo : World, wo = wr := ⟨_, rfl⟩
            by_cases hlt : q < g.rules.length
            · obtain ⟨b, o, rfl, hF, hl, hc1, A', c', hc2, hsy⟩ := hr.ruleAt q hlt
              have hok := hv.ok g.rules[q] (by simp)
              have l0 := hok.l0
              have l1 := hok.l1
              have ln := hok.len
              rw [HN.out] at l1
              have hc1' := (hD.below.cell (p := ⟨b, o + q * 2, none⟩) hl).trans hc1
              have hc2' := (hD.below.cell (p := ⟨b, o + q * 2 + 1, none⟩) hl).trans hc2
              have hsz := hD.size
              have he5 := blk_cell hD.ends (i := 5) rfl
              have hof : wo.cell? ⟨w.heap.size + 1, g.rules[q].l.toNat, none⟩ = some (.slice (some ⟨w.heap.size + 3 + g.rules[q].l.toNat, 0, none⟩) (x.length + 1) (x.length + 1)) := blk_cell hD.of_ (by simp [show g.rules[q].l.toNat < k by omega])
              have hs2 : w.heap.size + 1 + 1 < wo.heap.size := by omega
              have hs1 : w.heap.size + 1 < wo.heap.size := by omega
              go_wp2_with fail
              go_quiet (fail)
              go_wp2
              have hD1 : DInv w ((wo.alloc (.cells #[.int .i64 g.rules[q].l, .slice A' g.rules[q].r.length c'] 47)).drewN nq) g (.slice (some ⟨b, o, none⟩) g.rules.length c) (.slice B x.length d) (x.length + 1) k M' := hD.keep (below_drewN ((Below.refl _ _).alloc (Nat.le_refl _) _) _)
              clear hof hc1' hc2' he5
              go_loopg [7, 57] (x.length + 1) (fun gk m i wr => ∃ (p : Nat) (M2 : List (List Nat)), p ≤ x.length + 1 ∧ gk = x.length + 1 - p ∧ i = .int .i64 p ∧ DInv w wr g (.slice (some ⟨b, o, none⟩) g.rules.length c) (.slice B x.length d) (x.length + 1) k M2 ∧ MShape g x M2 ∧ Sound g x M2 ∧
                Pass m M M2 ((∀ e (h : e < g.rules.length), e < q → ∀ i, i ≤ x.length → ClosedR x M g.rules[e] i) ∧ ∀ i, i < p → ClosedR x M g.rules[q] i) ∧ wr.heap[wo.heap.size]? = some (.cells #[.int .i64 g.rules[q].l, .slice A' g.rules[q].r.length c'] 47 (0, 0)))
              case atStart =>
                refine ⟨0, M', by omega, by omega, rfl, hD1, hsh, hso, ?_, ?_⟩
                · rcases hP with hP | ⟨h1, h2, h3⟩
                  · exact .inl hP
                  · exact .inr ⟨h1, h2, h3, fun i hi => by omega⟩
                · rw [drewN_heap, heap_alloc_new]
              case round =>
                clear hD hD1 hsh hso hP
                obtain ⟨p, M2, hp, rfl, rfl, hD, hsh, hso, hP, hrb⟩ := hrel
                by_cases hlt2 : p < x.length + 1
                · have hq1 := blk_cell hrb (i := 1) rfl
                  have hpz : decide ((p : Int) < (x.length : Int) + 1) = true := by simp only [decide_eq_true_eq]; omega
                  have hpw := Lib.hid (pow_mod13 (k := p) (by omega))
                  go_wp2
                  clear hq1
                  obtain ⟨wi, rfl⟩ : ∃ wi : World, wi = wr := ⟨_, rfl⟩
                  go_loopg [11, 65] g.rules[q].r.length (fun gk at_ i wr => ∃ e : Nat, e ≤ g.rules[q].r.length ∧ gk = g.rules[q].r.length - e ∧ i = .int .i64 e ∧ at_ = .int .u32 (seqEnds x M2 (g.rules[q].r.take e) (2 ^ p)) ∧ DInv w wr g (.slice (some ⟨b, o, none⟩) g.rules.length c) (.slice B x.length d) (x.length + 1) k M2 ∧
                    wr.heap[wo.heap.size]? = some (.cells #[.int .i64 g.rules[q].l, .slice A' g.rules[q].r.length c'] 47 (0, 0)))
                  case atStart => exact ⟨0, by omega, by omega, rfl, by rw [hpw.out]; rfl, hD, hrb⟩
                  case round =>
                    clear hD hrb
                    obtain ⟨e, he, rfl, rfl, rfl, hD, hrb⟩ := hrel
                    by_cases hlt3 : e < g.rules[q].r.length
                    · obtain ⟨b3, o3, rfl, hF3, hl3, hc3, hc4⟩ := hsy.symAt e hlt3
                      have hc3' := (hD.below.cell (p := ⟨b3, o3 + e * 2, none⟩) hl3).trans hc3
                      have hc4' := (hD.below.cell (p := ⟨b3, o3 + e * 2 + 1, none⟩) hl3).trans hc4
                      have hsym := hok.syms g.rules[q].r[e] (by simp)
                      have hsn : g.rules[q].r[e].t = false → g.rules[q].r[e].n < M2.length := fun h => by have := hsym.nn h; have := hsh.len; omega
                      have hlt32 := seqEnds_lt hsh.small hm (g.rules[q].r.take e) (2 ^ p) (pow_lt13 (by omega))
                      have hst := seqEnds_take (x := x) (M := M2) (f := 2 ^ p) hlt3
                      have HS := Lib.hid hst
                      have hsz := hD.size
                      have hD2 : DInv w (wr.alloc (.cells #[.bool g.rules[q].r[e].t, .int .i64 g.rules[q].r[e].n] 37)) g (.slice (some ⟨b, o, none⟩) g.rules.length c) (.slice B x.length d) (x.length + 1) k M2 := hD.keep ((Below.refl _ _).alloc (Nat.le_refl _) _)
                      have hls := blk_lt hrb
                      clear hst
                      go_wp2_with fail
                      refine (after_any (fun _ => True) (w.heap.size + 2) g x M2 _ _ _ _ _ _ _ _ _ g.rules[q].r[e] _ _ (hD2.isEnds HN.out hsh rfl hm hr hx hN10) hm hsym.n0 hsn hsh.row hsh.small hlt32).mono ?_
                      rintro e2 w2 ⟨rfl, hb2⟩
                      go_wp2
                      go_roundg (g.rules[q].r.length - (e + 1))
                      case measure => omega
                      case rel => exact ⟨e + 1, by omega, rfl, by go_num, by rw [HS.out], hD2.keep hb2, blk_below hb2 (by rw [World.size_alloc]; omega) ((Below.heap_alloc _ _ _ hls).trans hrb)⟩
                    · obtain rfl : e = g.rules[q].r.length := by omega
                      rw [List.take_length]
                      have hML : M2.length = k := by have := hsh.len; rw [HN.out] at this; omega
                      have hnl : g.rules[q].l.toNat < M2.length := by omega
                      have hrl : p < (M2.getD g.rules[q].l.toNat []).length := by
                        have e1 : M2.getD g.rules[q].l.toNat [] = M2[g.rules[q].l.toNat] := by simp [List.getD_eq_getElem?_getD, hnl]
                        rw [e1, hsh.row _ (by simp)]; omega
                      have hsz := hD.size
                      have hs2 : w.heap.size + 1 + 1 < wr.heap.size := by omega
                      have hl0 := blk_cell hrb (i := 0) rfl
                      have he5 := blk_cell hD.ends (i := 5) rfl
                      have hof : wr.cell? ⟨w.heap.size + 1, g.rules[q].l.toNat, none⟩ = some (.slice (some ⟨w.heap.size + 3 + g.rules[q].l.toNat, 0, none⟩) (x.length + 1) (x.length + 1)) := blk_cell hD.of_ (by simp [show g.rules[q].l.toNat < k by omega])
                      have hcell : wr.cell? ⟨w.heap.size + 3 + g.rules[q].l.toNat, p, none⟩ = some (.int .u32 (entry M2 g.rules[q].l p)) := blk_cell (hD.row _ (by omega)) (by
                        simp only [List.getElem?_toArray, List.getElem?_map, entry, List.getElem?_eq_getElem hrl, Option.map_some]
                        simp [List.getD_eq_getElem?_getD, List.getElem?_eq_getElem (by simpa [List.getD_eq_getElem?_getD] using hrl)])
                      have hfree : wr.frozen? ⟨w.heap.size + 3 + g.rules[q].l.toNat, p, none⟩ = false := blk_free (hD.row _ (by omega))
                      have ha32 := seqEnds_lt hsh.small hm g.rules[q].r (2 ^ p) (pow_lt13 (by omega))
                      have hv32 := entry_lt hsh g.rules[q].l p
                      have hnot := u32_andNot_nat (seqEnds x M2 g.rules[q].r (2 ^ p)) (entry M2 g.rules[q].l p) ha32 hv32
                      have hor := u32_or_nat (entry M2 g.rules[q].l p) (seqEnds x M2 g.rules[q].r (2 ^ p)) hv32 ha32
                      have hpx : (p : Int) < (x.length : Int) + 1 := by omega
                      have hpx2 : p < x.length + 1 := by omega
                      have hmem : g.rules[q] ∈ g.rules := by simp
                      by_cases hz : seqEnds x M2 g.rules[q].r (2 ^ p) &&& (4294967295 - entry M2 g.rules[q].l p) = 0
                      · have hzz : (bits BinOp.andNot IntKind.u32 (seqEnds x M2 g.rules[q].r (2 ^ p) : Nat) (entry M2 g.rules[q].l p : Nat) != 0) = false := by rw [hnot, hz]; rfl
                        have hcr : ClosedR x M2 g.rules[q] p := fun j => andNot_zero ha32 hv32 hz j
                        have hP2 : Pass u7 M M2 ((∀ e (h : e < g.rules.length), e < q → ∀ i, i ≤ x.length → ClosedR x M g.rules[e] i) ∧ ∀ i, i < p + 1 → ClosedR x M g.rules[q] i) := by
                          rcases hP with hP | ⟨h1, h2, h3, h4⟩
                          · exact .inl hP
                          · refine .inr ⟨h1, h2, h3, fun i hi => ?_⟩
                            by_cases ei : i = p
                            · subst ei; rw [← h2]; exact hcr
                            · exact h4 i (by omega)
                        clear hnot hor hz hP hcr
                        go_wp2_with fail
                        go_quiet (fail)
                        go_wp2
                        go_roundg (x.length + 1 - (p + 1))
                        case measure => omega
                        case rel => exact ⟨p + 1, M2, by omega, rfl, by go_num, hD.keep (below_drewN (Below.refl _ _) _), hsh, hso, hP2, hrb⟩
                      · have hzz : (bits BinOp.andNot IntKind.u32 (seqEnds x M2 g.rules[q].r (2 ^ p) : Nat) (entry M2 g.rules[q].l p : Nat) != 0) = true := by
                          rw [hnot, bne_iff_ne]; intro h; exact hz (by omega)
                        have hmore := andNot_more ha32 hv32 hz
                        have hroom := room_put hnl hrl hmore (or_lt hv32 ha32)
                        have hP2 : Pass (.bool true) M (putM M2 g.rules[q].l p (entry M2 g.rules[q].l p ||| seqEnds x M2 g.rules[q].r (2 ^ p))) ((∀ e (h : e < g.rules.length), e < q → ∀ i, i ≤ x.length → ClosedR x M g.rules[e] i) ∧ ∀ i, i < p + 1 → ClosedR x M g.rules[q] i) := by
                          rcases hP with ⟨_, hP⟩ | ⟨_, h2, _⟩
                          · exact .inl ⟨rfl, by omega⟩
                          · subst h2; exact .inl ⟨rfl, hroom⟩
                        have hso2 := sound_put hso hmem l0 (fun y hy => (hok.syms y hy).n0) (by omega) hnl hrl
                        have hsh2 := hsh.put (i := p) (or_lt hv32 ha32) hnl
                        have HO := Lib.hid hor
                        clear hnot hor hz hP hmore hroom
                        go_wp2_with fail
                        go_quiet (fail)
                        go_wp2_with fail
                        go_region
                        go_wp2
                        go_roundg (x.length + 1 - (p + 1))
                        case measure => omega
                        case rel =>
                          rw [HO.out]
                          exact ⟨p + 1, _, by omega, rfl, by go_num, (hD.keep (below_drewN (Below.refl _ _) _)).put hML (by omega), hsh2, hso2, hP2, by rw [heap_set_ne (by omega)]; exact hrb⟩
                · obtain rfl : p = x.length + 1 := by omega
                  have hP2 : Pass u7 M M2 (∀ e (h : e < g.rules.length), e < q + 1 → ∀ i, i ≤ x.length → ClosedR x M g.rules[e] i) := by
                    rcases hP with hP | ⟨h1, h2, h3, h4⟩
                    · exact .inl hP
                    · refine .inr ⟨h1, h2, fun e he hq i hi => ?_⟩
                      by_cases eq : e = q
                      · subst eq; exact h4 i (by omega)
                      · exact h3 e he (by omega) i hi
                  clear hP
                  go_wp2
                  go_roundg (g.rules.length - (q + 1))
                  case measure => omega
                  case rel => exact ⟨q + 1, M2, by omega, rfl, by go_num, hD, hsh, hso, hP2⟩
            · obtain rfl : q = g.rules.length := by omega
              rcases hP with ⟨rfl, hP⟩ | ⟨rfl, rfl, hP⟩
              · go_wp2
                go_roundg (room M' + 1)
                case measure => omega
                case rel => exact ⟨M', hD, hsh, hso, .inl ⟨rfl, rfl⟩⟩
              · go_wp2
                go_roundg 0
                case measure => omega
                case rel => exact ⟨M', hD, hsh, hso, .inr ⟨rfl, rfl, fun r hr i hi => by
                  obtain ⟨e, he, rfl⟩ := List.getElem_of_mem hr
                  exact hP e he he i hi⟩⟩
        · obtain ⟨rfl, rfl, hcl⟩ := hm
          go_wp2
          go_ret
          exact ⟨_, rfl, hD.below, M, _, _, _, hD.isEnds HN.out hsh rfl hm hr hx hN10, hsh, hso, hcl⟩
end Go.Proofs.Ytdbkbkopcnkgcaa
