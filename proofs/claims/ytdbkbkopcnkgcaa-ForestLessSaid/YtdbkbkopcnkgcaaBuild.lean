import Derived.Test.YtdbkbkopcnkgcaaForMN
import Derived.Test.YtdbkbkopcnkgcaaBlkNew
import Derived.Test.YtdbkbkopcnkgcaaOwnLt
open Go Go.RowKit
namespace Go.Proofs.Ytdbkbkopcnkgcaa

/-- a matrix of ends that is being filled -/
structure FillM (W wr : World) (L N : Nat) (M : List (List Nat)) : Prop where
  below : Below W.heap.size W wr
  of_ : wr.heap[W.heap.size + 1]? = some (.cells ((List.range N).map (fun n => (.slice (some ⟨W.heap.size + 2 + n, 0, none⟩) L L : Value))).toArray 60 (0, 0))
  row : ∀ n, n < N → wr.heap[W.heap.size + 2 + n]? = some (.cells ((M.getD n []).map (fun v : Nat => Value.int .u32 v)).toArray 61 (0, 0))
  size : W.heap.size + 2 + N ≤ wr.heap.size

theorem FillM.start {W wr : World} {L N : Nat} (h : EMade W wr L N N) : FillM W wr L N (List.replicate N (List.replicate L 0)) := by
  refine ⟨h.below, ?_, fun n hn => ?_, by rw [h.size]; exact Nat.le_refl _⟩
  · rw [h.of_]
    congr 3
    apply List.map_congr_left
    intro n hn
    rw [if_pos (by simpa using hn)]
  · rw [h.row n hn]
    congr 3
    simp [List.getD_eq_getElem?_getD, hn]
theorem FillM.keep {W wr w' : World} {L N : Nat} {M : List (List Nat)} (h : FillM W wr L N M) (hb : Below wr.heap.size wr w') : FillM W w' L N M :=
  have hs := h.size
  ⟨h.below.trans (hb.mono h.below.size), blk_below hb (by omega) h.of_, fun n hn => blk_below hb (by omega) (h.row n hn), Nat.le_trans hs hb.size⟩
theorem FillM.put {W wr : World} {L N : Nat} {M : List (List Nat)} (h : FillM W wr L N M) (hM : M.length = N) {n : Nat} {i v : Nat} :
    FillM W (wr.setCell ⟨W.heap.size + 2 + n, i, none⟩ (.int .u32 v)) L N (putM M n i v) := by
  have hs := h.size
  refine ⟨h.below.setCell (by show W.heap.size ≤ W.heap.size + 2 + n; omega) _, ?_, ?_, by rw [size_setCell]; exact hs⟩
  · rw [heap_set_ne (by omega)]; exact h.of_
  · intro k hk
    by_cases e : k = n
    · subst e
      rw [heap_set (h.row _ hk)]
      congr 2
      apply Array.ext'
      simp only [Array.toList_setIfInBounds, putM, List.getD_eq_getElem?_getD, List.getElem?_set, hM, hk, Int.toNat_natCast, if_true, Option.getD_some, List.map_set]
    · rw [heap_set_ne (by omega), h.row k hk]
      congr 3
      simp only [putM, List.getD_eq_getElem?_getD, List.getElem?_set, Int.toNat_natCast, show ¬ n = k from fun h => e h.symm, if_false]

/-- filled as far as row n, place i -/
structure Upto (L N : Nat) (M M' : List (List Nat)) (n i : Nat) : Prop where
  len : M'.length = N
  row : ∀ r ∈ M', r.length = L
  same : ∀ k j : Nat, (k < n ∨ (k = n ∧ j < i)) → entry M' k j = entry M k j

theorem Upto.put {L N : Nat} {M M' : List (List Nat)} {n i : Nat} (h : Upto L N M M' n i) (hn : n < N) (hi : i < L) : Upto L N M (putM M' n i (entry M n i)) n (i + 1) := by
  have hl := h.len
  have e : M'.getD n [] = M'[n] := by simp [List.getD_eq_getElem?_getD, show n < M'.length by omega]
  refine ⟨by unfold putM; simpa using hl, ?_, fun k j hk => ?_⟩
  · intro r hr
    unfold putM at hr
    rcases List.mem_or_eq_of_mem_set hr with hr | rfl
    · exact h.row r hr
    · rw [Int.toNat_natCast, e, List.length_set]; exact h.row _ (by simp)
  · rw [entry_put (by rw [Int.toNat_natCast]; omega) (by rw [Int.toNat_natCast, e, h.row _ (by simp)]; exact hi)]
    simp only [Int.toNat_natCast]
    by_cases hh : k = n ∧ j = i
    · rw [if_pos hh]; obtain ⟨rfl, rfl⟩ := hh; rfl
    · rw [if_neg hh]; exact h.same k j (by omega)
theorem Upto.next {L N : Nat} {M M' : List (List Nat)} {n : Nat} (h : Upto L N M M' n L) (hM : ∀ r ∈ M, r.length = L) : Upto L N M M' (n + 1) 0 := by
  refine ⟨h.len, h.row, fun k j hk => ?_⟩
  by_cases hj : k = n ∧ L ≤ j
  · obtain ⟨rfl, hj⟩ := hj
    have key : ∀ P : List (List Nat), (∀ r ∈ P, r.length = L) → entry P (k : Int) j = 0 := fun P hP => by
      unfold entry
      rw [Int.toNat_natCast, List.getD_eq_getElem?_getD, List.getD_eq_getElem?_getD]
      cases h1 : P[k]? with
      | none => simp
      | some r =>
        simp only [Option.getD_some]
        rw [List.getElem?_eq_none (by rw [hP r (List.mem_of_getElem? h1)]; exact hj)]
        rfl
    rw [key M' h.row, key M hM]
  · exact h.same k j (by omega)
theorem Upto.done {L N : Nat} {M M' : List (List Nat)} {i : Nat} (h : Upto L N M M' N i) (hM : ∀ r ∈ M, r.length = L) (hl : M.length = N) : M' = M := by
  apply List.ext_getElem (by rw [h.len, hl])
  intro n h1 h2
  apply List.ext_getElem (by rw [h.row _ (by simp), hM _ (by simp)])
  intro i h3 h4
  have := h.same n i (.inl (by omega))
  simpa [entry, List.getD_eq_getElem?_getD, h1, h2, h3, h4] using this
theorem Upto.start (L N : Nat) (M : List (List Nat)) : Upto L N M (List.replicate N (List.replicate L 0)) 0 0 :=
  ⟨by simp, fun r hr => by rw [(List.mem_replicate.1 hr).2]; simp, fun k j hk => by omega⟩

theorem shr_low {b i : Nat} (h : ∀ j, b.testBit j = true → i ≤ j) : b / 2 ^ i * 2 ^ i = b := by
  apply Nat.eq_of_testBit_eq
  intro j
  rw [Nat.testBit_mul_two_pow, Nat.testBit_div_two_pow]
  cases hb : b.testBit j
  · by_cases hij : i ≤ j
    · simp [hij, hb]
    · simp [hij]
  · have hij := h j hb
    simp [hij, hb]
theorem shr_high {b n : Nat} (h : ∀ j, b.testBit j = true → j < n) : b / 2 ^ n = 0 := by
  apply Nat.eq_of_testBit_eq
  intro j
  rw [Nat.testBit_div_two_pow, Nat.zero_testBit]
  cases hb : b.testBit (j + n)
  · rfl
  · have := h _ hb; omega

theorem FillM.mk_at {W wr : World} {bm N c d : Nat} {g : Gram} {x : List Int} {M : List (List Nat)} {A B : Option Addr} (h : FillM W wr (x.length + 1) N M) (hlt : W.heap.size + 2 + N ≤ bm)
    (hb : wr.heap[bm]? = some (.cells #[.int .i64 g.terms, .int .i64 g.nons, .int .i64 g.start, .slice A g.rules.length c, .slice B x.length d, .slice (some ⟨W.heap.size + 1, 0, none⟩) N N, .map none, .int .i64 0] 109 (0, 0)))
    (hML : M.length = N) (hN : g.nons = N) (hs : MShape g x M) (hl : x.length ≤ 12) (hN2 : N ≤ 10) (hr : IsSl Elt.rule (fun b => b ≠ bm) wr (.slice A g.rules.length c) g.rules) (hx : IsSl Elt.int (fun b => b ≠ bm) wr (.slice B x.length d) x) :
    MkAt (fun b => b ≠ bm) wr bm g x M A c B d (some ⟨W.heap.size + 1, 0, none⟩) N (.map none) 0 := by
  refine ⟨by rw [hML]; exact hb, hr, hx, ?_⟩
  refine ⟨_, N, by rw [hML], by omega, fun k hk => ⟨W.heap.size + 1, 0, rfl, by omega, blk_lt h.of_, by omega, some ⟨W.heap.size + 2 + k, 0, none⟩, x.length + 1, blk_cell h.of_ ?_, ?_, ?_⟩⟩
  · simp [Elt.sl, show k < N by omega]
    rw [hs.row _ (by simp)]
  · rw [hs.row _ (by simp)]; exact Nat.le_refl _
  · have hrk := h.row k (by omega)
    have e : M.getD k [] = M[k] := by simp [List.getD_eq_getElem?_getD, hk]
    rw [e] at hrk
    refine sl_of_blk (enc := fun n : Nat => Value.int .u32 n) _ (by omega) hrk rfl ?_
    rw [hs.row _ (by simp)]; omega

/-- what Build leaves -/
def BuildEnd (w w' : World) (e : Ending) (g : Gram) (x : List Int) (M : List (List Nat)) : Prop :=
  ∃ N cn, e = .returned (.tuple #[.agg #[.slice N (madeF g x M).1.nodes.length cn, .int .i64 (madeF g x M).1.root], .int .i64 (madeF g x M).2]) ∧ Below w.heap.size w w' ∧ IsSl Elt.node (fun b => w.heap.size ≤ b) w' (.slice N (madeF g x M).1.nodes.length cn) (madeF g x M).1.nodes

section
variable {g : Gram} {x : List Int} {A : Option Addr} {c : Nat} {B : Option Addr} {d : Nat} {M : List (List Nat)} {C : Option Addr} {q : Nat}

set_option maxRecDepth 100000 in
set_option maxHeartbeats 4000000 in
theorem build_any (F : Nat → Prop) (hv : Valid g) (hm : x.length ≤ 12) (w : World) (hc : g.rules.length ≤ c) (ho : OkWord g x)
    (hr : IsSl Elt.rule F w (.slice A g.rules.length c) g.rules) (hx : IsSl Elt.int F w (.slice B x.length d) x) (hM : IsSl (Elt.sl Elt.u32) F w (.slice C M.length q) M) (hsh : MShape g x M) (hlow : MLow M) (hshort : Short x M) :
    Calls Try.prog 27 #[gramV g (.slice A g.rules.length c), .slice B x.length d, .slice C M.length q] w fun e w' => BuildEnd w w' e g x M := by
  obtain ⟨N, hN⟩ : ∃ N : Nat, g.nons = N := ⟨g.nons.toNat, by have := hv.n1; omega⟩
  have hN10 : N ≤ 10 := by have := hv.n10; omega
  have hML : M.length = N := by have := hsh.len; omega
  have hem := empty_any g (.slice A g.rules.length c) N hN hN10 B x.length d hm
  unfold gramV at hem ⊢
  rw [hML] at hM ⊢
  have HN := Lib.hid hN
  have HML := Lib.hid hML
  clear hN hML
  go_enter Try.func27, Try.ntmps27
  go_wp2_with fail
  have hb2 : Below w.heap.size w ((w.alloc (.cells #[.int .i64 g.terms, .int .i64 g.nons, .int .i64 g.start, .slice A g.rules.length c] 25)).alloc (.cells #[.slice none 0 0, .int .i64 0] 30)) := ((Below.refl _ _).alloc (Nat.le_refl _) _).alloc (by rw [World.size_alloc]; omega) _
  have hacc := accepts_any F g A _ c x B _ d _ (hr.below hb2) hv hc (hx.below hb2) ho hm
  unfold gramV at hacc
  with_reducible refine hacc.mono ?_
  rintro e3 w3 ⟨whole, rfl, -, hb3⟩
  have hw2 := blk_new1 (w := w) rfl (.cells #[.int .i64 g.terms, .int .i64 g.nons, .int .i64 g.start, .slice A g.rules.length c] 25) (.cells #[.slice none 0 0, .int .i64 0] 30)
  have hf2 := blk_new' (w := w.alloc (.cells #[.int .i64 g.terms, .int .i64 g.nons, .int .i64 g.start, .slice A g.rules.length c] 25)) (World.size_alloc _ _) (.cells #[.slice none 0 0, .int .i64 0] 30)
  have hg3 := blk_below hb3 (blk_lt hw2) hw2
  have hf3 := blk_below hb3 (blk_lt hf2) hf2
  have hw3 : Below w.heap.size w w3 := hb2.trans (hb3.mono hb2.size)
  have hM3 := hM.below hw3
  have hr3 := hr.below hw3
  have hx3 := hx.below hw3
  have k0 := blk_cell hg3 (i := 0) rfl
  have k1 := blk_cell hg3 (i := 1) rfl
  have k2 := blk_cell hg3 (i := 2) rfl
  have k3 := blk_cell hg3 (i := 3) rfl
  clear hw2 hf2 hb3 hb2 hacc hM hr hx
  go_wp2_with fail
  refine (hem w3).mono ?_
  rintro e4 w4 ⟨rfl, hE⟩
  have hS := FillM.start hE
  clear hem hE k0 k1 k2 k3
  go_wp2_with fail
  go_loopg [35] N (fun gk v wr => ∃ (n : Nat) (M' : List (List Nat)), n ≤ N ∧ gk = N - n ∧ v = .int .i64 n ∧ FillM w3 wr (x.length + 1) N M' ∧ Upto (x.length + 1) N M M' n 0)
  case atStart => exact ⟨0, _, by omega, by omega, rfl, hS, Upto.start _ _ _⟩
  case round =>
    clear hS
    obtain ⟨n, M', hn, rfl, rfl, hS, hU⟩ := hrel
    obtain ⟨wo, rfl⟩ : ∃ wo : World, wo = wr := ⟨_, rfl⟩
    by_cases hlt : n < N
    · have hnM : n < M.length := by have := HML.out; omega
      obtain ⟨b1, o1, rfl, _, hl1, A1, c1, q1, s1⟩ := hM3.rowAt n hnM
      have hrl := hsh.row M[n] (by simp)
      have q1' := (hS.below.cell (p := ⟨b1, o1 + n, none⟩) hl1).trans q1
      rw [hrl] at q1' s1
      have q2 : wo.cell? ⟨w3.heap.size + 1, n, none⟩ = some (.slice (some ⟨w3.heap.size + 2 + n, 0, none⟩) (x.length + 1) (x.length + 1)) := blk_cell hS.of_ (by simp [hlt])
      have hnz : (n : Int) < (N : Int) := by omega
      have hsz := hS.size
      have hl2 := cell_lt q1'
      clear hrl q1
      go_wp2_with fail
      go_quiet (fail)
      have hS1 := hS.keep (below_drewN (Below.refl _ wo) nq)
      clear hS
      go_wp2_with fail
      clear q1' q2
      go_loopg [55] (x.length + 1) (fun gk v wr => ∃ (i : Nat) (M' : List (List Nat)), i ≤ x.length + 1 ∧ gk = x.length + 1 - i ∧ v = .int .i64 i ∧ FillM w3 wr (x.length + 1) N M' ∧ Upto (x.length + 1) N M M' n i)
      case atStart => exact ⟨0, _, by omega, by omega, rfl, hS1, hU⟩
      case round =>
        clear hS1 hU
        obtain ⟨i, M', hi, rfl, rfl, hS, hU⟩ := hrel
        obtain ⟨wi, rfl⟩ : ∃ wi : World, wi = wr := ⟨_, rfl⟩
        by_cases hlt2 : i < x.length + 1
        · have hrl := hsh.row M[n] (by simp)
          obtain ⟨b2, o2, rfl, _, hl3, q3⟩ := s1.oneAt i (by omega)
          have hb32 := hsh.small M[n] (by simp) M[n][i] (by simp)
          have he : entry M n i = M[n][i] := by simp [entry, List.getD_eq_getElem?_getD, hnM, show i < M[n].length by omega]
          have q3' := (hS.below.cell (p := ⟨b2, o2 + i, none⟩) hl3).trans q3
          have q2 : wi.cell? ⟨w3.heap.size + 1, n, none⟩ = some (.slice (some ⟨w3.heap.size + 2 + n, 0, none⟩) (x.length + 1) (x.length + 1)) := blk_cell hS.of_ (by simp [hlt])
          have hrow := hS.row n hlt
          have hUl : (M'.getD n []).length = x.length + 1 := by
            have := hU.len
            have e : M'.getD n [] = M'[n] := by simp [List.getD_eq_getElem?_getD, show n < M'.length by omega]
            rw [e, hU.row _ (by simp)]
          have q4 : wi.cell? ⟨w3.heap.size + 2 + n, i, none⟩ = some (.int .u32 ((M'.getD n []).getD i 0 : Nat)) := blk_cell hrow (by simp [List.getD_eq_getElem?_getD, show i < (M'[n]?.getD []).length by rw [← List.getD_eq_getElem?_getD, hUl]; exact hlt2])
          have q5 : wi.frozen? ⟨w3.heap.size + 2 + n, i, none⟩ = false := blk_free hrow
          have hlo := shr_low (b := M[n][i]) (i := i) fun j hj => hlow n i j (by rw [he]; exact hj)
          have hhi := shr_high (b := M[n][i]) (n := x.length + 1) fun j hj => by have := hshort n i j (by rw [he]; exact hj); omega
          have hS2 := hS.put hU.len (n := n) (i := i) (v := M[n][i])
          have hU2 := hU.put hlt hlt2
          rw [he] at hU2
          have hiz : (i : Int) < (x.length : Int) + 1 := by omega
          have hsz := hS.size
          have HE := Lib.hid he
          clear he
          generalize M[n][i] = bb at q3 q3' hb32 hlo hhi hS2 hU2 HE
          clear q3 hrl hUl hrow hS hU
          generalize (M'.getD n []).getD i 0 = old at q4
          have ht1 : (((bb : Int) / 2 ^ i * 2 ^ i % 4294967296) != (bb : Int)) = false := by
            rw [show ((bb : Int) / 2 ^ i * 2 ^ i) = ((bb / 2 ^ i * 2 ^ i : Nat) : Int) by norm_cast, hlo]
            rw [Int.emod_eq_of_lt (by omega) (by omega)]
            simp
          have ht2 : ((bb : Int) / 2 ^ (x.length + 1) != 0) = false := by
            rw [show ((bb : Int) / 2 ^ (x.length + 1)) = ((bb / 2 ^ (x.length + 1) : Nat) : Int) by norm_cast, hhi]
            rfl
          clear hlo hhi
          go_wp2_with fail
          clear ht1 ht2 q2 q3' q4 q5
          go_roundg (x.length + 1 - (i + 1))
          case measure => omega
          case rel => exact ⟨i + 1, _, by omega, rfl, by go_num, hS2, hU2⟩
        · obtain rfl : i = x.length + 1 := by omega
          have hiz : ¬ (((x.length + 1 : Nat) : Int) < (x.length : Int) + 1) := by omega
          go_wp2_with fail
          go_roundg (N - (n + 1))
          case measure => omega
          case rel => exact ⟨n + 1, M', by omega, rfl, by go_num, hS, hU.next hsh.row⟩
    · obtain rfl : n = N := by omega
      obtain rfl := hU.done hsh.row HML.out
      have hbw := hS.below
      have hsz := hS.size
      have hg5 := blk_below hbw (blk_lt hg3) hg3
      have hf5 := blk_below hbw (blk_lt hf3) hf3
      have k0 := blk_cell hg5 (i := 0) rfl
      have k1 := blk_cell hg5 (i := 1) rfl
      have k2 := blk_cell hg5 (i := 2) rfl
      have k3 := blk_cell hg5 (i := 3) rfl
      have hb6 := below1 wo (.cells #[.int .i64 g.terms, .int .i64 g.nons, .int .i64 g.start, .slice A g.rules.length c, .slice B x.length d, .slice (some ⟨w3.heap.size + 1, 0, none⟩) n n, .map none, .int .i64 0] 109)
      have hmk6 := heap_alloc_new wo (.cells #[.int .i64 g.terms, .int .i64 g.nons, .int .i64 g.start, .slice A g.rules.length c, .slice B x.length d, .slice (some ⟨w3.heap.size + 1, 0, none⟩) n n, .map none, .int .i64 0] 109)
      have hf6 := blk_below hb6 (blk_lt hf5) hf5
      have hS6 := hS.keep hb6
      have hr6 := ((hr3.below hbw).old.below hb6).weak (G := fun b => b ≠ wo.heap.size) fun b hb => by omega
      have hx6 := ((hx3.below hbw).old.below hb6).weak (G := fun b => b ≠ wo.heap.size) fun b hb => by omega
      have hmk := hS6.mk_at (bm := wo.heap.size) hsz hmk6 HML.out HN.out hsh hm hN10 hr6 hx6
      have hmd := maker_made_any hv hm hsh hlow _ hmk
      have hw6 : Below w.heap.size w (wo.alloc (.cells #[.int .i64 g.terms, .int .i64 g.nons, .int .i64 g.start, .slice A g.rules.length c, .slice B x.length d, .slice (some ⟨w3.heap.size + 1, 0, none⟩) n n, .map none, .int .i64 0] 109)) := (hw3.trans (hbw.mono hw3.size)).trans (hb6.mono (hw3.trans (hbw.mono hw3.size)).size)
      have hlo := (hw3.trans (hbw.mono hw3.size)).size
      clear hU hS hS6 hr6 hx6 hmk hmk6 hg3 hf3 hr3 hx3 hM3 hg5
      go_wp2_with fail
      with_reducible refine hmd.mono ?_
      rintro e7 w7 ⟨Q, cn, rfl, ha7, hsl7⟩
      have hs67 := ha7.size
      rw [World.size_alloc] at hs67
      have hf7 := (ha7.block (w.heap.size + 1) (blk_lt hf6) (by have := hw3.size; have := hbw.size; have := blk_lt hf5; omega)).trans hf6
      have hw7 : Below w.heap.size w w7 := hw6.trans ((ha7.mono hw6.size (fun _ _ h => h)).below fun j hj hj2 => by omega)
      have hg0 : w7.frozen? ⟨w.heap.size + 1, 0, none⟩ = false := blk_free hf7
      have hg1 : w7.frozen? ⟨w.heap.size + 1, 1, none⟩ = false := blk_free hf7
      have hd0 := blk_cell hf7 (i := 0) rfl
      have hd1 := blk_cell hf7 (i := 1) rfl
      have HFF := Lib.hid (show madeF g x M' = madeF g x M' from rfl)
      have hfin : ∀ u v, ((w7.setCell ⟨w.heap.size + 1, 0, none⟩ u).setCell ⟨w.heap.size + 1, 1, none⟩ v).heap[w.heap.size + 1]? = some (.cells #[u, v] 30 (0, 0)) := fun u v => by
        rw [heap_set (heap_set hf7 _ _)]; rfl
      have hlf := blk_lt hf5
      clear hmd hw6 hf6 hf5 hb6 k0 k1 k2 k3 hf7
      go_wp2_with fail
      refine bodyPost_ret (results_cell_tmp rfl rfl (run_loadVar_row _ (w.heap.size + 1) 30 30 #[.slice Q (madeF g x M').1.nodes.length cn, .int .i64 (madeF g x M').1.root] (0, 0) _ (hfin _ _) Try.underlying30 rfl (by kernel_rfl))) rfl ?_
      refine ⟨Q, cn, rfl, ?_, ?_⟩
      · exact (hw7.setCell (p := ⟨w.heap.size + 1, 0, none⟩) (by show w.heap.size ≤ w.heap.size + 1; omega) _).setCell (p := ⟨w.heap.size + 1, 1, none⟩) (by show w.heap.size ≤ w.heap.size + 1; omega) _
      · exact (hsl7.keep (fun b hb => by rw [World.size_alloc] at hb; rw [heap_set_ne (by omega), heap_set_ne (by omega)]) (by rw [size_setCell, size_setCell]; exact Nat.le_refl _)).weak fun b hb => by rw [World.size_alloc] at hb; omega
end
end Go.Proofs.Ytdbkbkopcnkgcaa
