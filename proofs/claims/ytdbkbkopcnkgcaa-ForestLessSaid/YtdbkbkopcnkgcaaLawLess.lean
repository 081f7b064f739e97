import Derived.Test.YtdbkbkopcnkgcaaParts
import Derived.Test.YtdbkbkopcnkgcaaWoodFact
import Derived.Test.YtdbkbkopcnkgcaaBuild
import Derived.Test.YtdbkbkopcnkgcaaNodeFind
import Derived.Test.YtdbkbkopcnkgcaaShapeC
open Go Go.RowKit
namespace Go.Proofs.Ytdbkbkopcnkgcaa

/-! ### the law ForestLess -/
theorem RowsAt.rowCell {w : World} {base : Nat} {A : Option Addr} {n c : Nat} {L : List (Nat × List Nat)} (h : RowsAt w base (.slice A n c) L) {k : Nat} (hk : k < L.length) : ∃ b, A = some ⟨b, 0, none⟩ ∧ w.cell? ⟨b, k, none⟩ = some (rowV L[k]) := by
  obtain ⟨b, cap, he, hb1, hb2⟩ := h.own.form (by omega)
  injection he with he1 he2 he3
  subst he1
  have hx : (L.map rowV)[k]? = some (rowV L[k]) := by rw [List.getElem?_map, List.getElem?_eq_getElem hk]; rfl
  have k0 := h.own.cells (g := b) rfl _ _ hx
  rw [add_lit0] at k0
  exact ⟨b, rfl, k0⟩

theorem fewer_refl (M : List (List Nat)) : Fewer M M := fun _ _ _ h => h
theorem fewer_put {M' M : List (List Nat)} (h : Fewer M' M) {n i u : Nat} (hn : n < M'.length) (hi : i < (M'.getD n []).length) (hu : ∀ j, u.testBit j = true → (entry M' n i).testBit j = true) : Fewer (putM M' n i u) M := fun m k j hj => by
  rw [entry_put (by simpa using hn) (by simpa using hi)] at hj
  split at hj
  · rename_i e
    obtain ⟨e1, e2⟩ := e
    subst e2
    have h1 := h n _ j (hu j hj)
    unfold entry at h1 ⊢
    rw [e1]
    exact h1
  · exact h m k j hj
theorem rows_put {L : List (Nat × List Nat)} {n i u : Nat} (hn : n < L.length) : (L.set n (L[n].1, L[n].2.set i u)).map (·.2) = putM (L.map (·.2)) n i u := by
  unfold putM
  rw [List.map_set]
  simp only [Int.toNat_natCast]
  congr 2
  rw [List.getD_eq_getElem?_getD, List.getElem?_map, List.getElem?_eq_getElem hn]
  rfl
theorem rows_put1 {L : List (Nat × List Nat)} {n i u : Nat} (hn : n < L.length) : (L.set n (L[n].1, L[n].2.set i u)).map (·.1) = L.map (·.1) := by
  refine List.ext_getElem? fun j => ?_
  rw [List.getElem?_map, List.getElem?_map, List.getElem?_set]
  by_cases e : n = j
  · subst e
    simp [hn]
  · simp [e]

/-- the rows are masked -/
structure MaskAt (W0 w : World) (base : Nat) (v : Value) (g : Gram) (x : List Int) (M : List (List Nat)) (RB : List Nat) (L : List (Nat × List Nat)) : Prop where
  rows : RowsAt w base v L
  fst : L.map (·.1) = RB
  shape : MShape g x (L.map (·.2))
  less : Fewer (L.map (·.2)) M
  away : Away W0.heap.size (fun b => b ∈ RB) W0 w
theorem MaskAt.below {W0 w w' : World} {base : Nat} {v : Value} {g : Gram} {x : List Int} {M : List (List Nat)} {RB : List Nat} {L : List (Nat × List Nat)} (h : MaskAt W0 w base v g x M RB L) (hb : Below w.heap.size w w') : MaskAt W0 w' base v g x M RB L :=
  ⟨h.rows.below hb, h.fst, h.shape, h.less, h.away.trans (Away.ofBelow (hb.mono h.away.size))⟩
theorem MaskAt.put {W0 w : World} {base : Nat} {v : Value} {g : Gram} {x : List Int} {M : List (List Nat)} {RB : List Nat} {L : List (Nat × List Nat)} (h : MaskAt W0 w base v g x M RB L) {n i u : Nat} (hn : n < L.length) (hi : i < L[n].2.length) (h32 : u < 2 ^ 32) (hu : ∀ j, u.testBit j = true → (L[n].2[i]).testBit j = true) : MaskAt W0 (w.setCell ⟨L[n].1, i, none⟩ (.int .u32 u)) base v g x M RB (L.set n (L[n].1, L[n].2.set i u)) := by
  have hn2 : n < (L.map (·.2)).length := by simpa using hn
  have he : (L.map (·.2)).getD n [] = L[n].2 := by rw [List.getD_eq_getElem?_getD, List.getElem?_map, List.getElem?_eq_getElem hn]; rfl
  refine ⟨h.rows.put hn u, by rw [rows_put1 hn]; exact h.fst, by rw [rows_put hn]; exact h.shape.put h32 (by simpa using hn), ?_, h.away.trans (Away.setCell w L[n].1 i _ (.inl ?_))⟩
  · rw [rows_put hn]
    refine fewer_put h.less hn2 (by rw [he]; exact hi) fun j hj => ?_
    have := hu j hj
    unfold entry
    rw [Int.toNat_natCast, he, List.getD_eq_getElem?_getD, List.getElem?_eq_getElem hi]
    exact this
  · show L[n].1 ∈ RB
    rw [← h.fst]
    exact List.mem_map_of_mem (List.getElem_mem hn)

set_option maxRecDepth 100000 in
set_option maxHeartbeats 6400000 in
theorem forestLess_any (F F2 F3 : Nat → Prop) (l l2 l3 : List Int) (A : Option Addr) (n c : Nat) (A2 : Option Addr) (n2 c2 : Nat) (A3 : Option Addr) (n3 c3 : Nat) (w : World) (hl : IsSl Elt.int F w (.slice A n c) l) (hl2 : IsSl Elt.int F2 w (.slice A2 n2 c2) l2) (hl3 : IsSl Elt.int F3 w (.slice A3 n3 c3) l3) (hnc : n ≤ c) :
    Calls Try.prog 6 #[.slice A n c, .slice A2 n2 c2, .slice A3 n3 c3] w fun e w' => e = .returned (.bool true) ∧ Below w.heap.size w w' := by
  obtain ⟨hn3e, hn3⟩ := hl3.len
  have HN3 := Lib.hid hn3e
  clear hn3e
  go_enter Try.func6, Try.ntmps6
  go_wp2_with fail
  refine (made_any F F2 l l2 A n c A2 n2 c2 6 _ hl hl2 hnc (by decide)).mono ?_
  rintro e1 w1 ⟨g, A', c', x, C, cx, rfl, hM⟩
  have hsm := hM.small
  have hv := hM.small.valid
  have hx6 := hM.most
  have hcap := hM.cap
  have hcx := hM.capx
  have hok : OkWord g x := hM.terms
  obtain ⟨M, hIM⟩ := isM_ex hv (show x.length ≤ 12 by omega)
  have hw1 := hM.below
  have hbA := below1 w1 (.cells #[.int .i64 g.terms, .int .i64 g.nons, .int .i64 g.start, .slice A' g.rules.length c'] 25)
  have hgA := heap_alloc_new w1 (.cells #[.int .i64 g.terms, .int .i64 g.nons, .int .i64 g.start, .slice A' g.rules.length c'] 25)
  have hrA := (hM.rules.below hbA).weak (G := fun _ => True) fun _ _ => trivial
  have hxA := (hM.word.below hbA).weak (G := fun _ => True) fun _ _ => trivial
  have hwA := hw1.trans (hbA.mono hw1.size)
  have hlA := (hl3.below hwA).weak (G := fun _ => True) fun _ _ => trivial
  unfold gramV
  clear hM hl hl2 hl3 hbA
  have hsA := World.size_alloc w1 (.cells #[.int .i64 g.terms, .int .i64 g.nons, .int .i64 g.start, .slice A' g.rules.length c'] 25)
  have hpa := parts_any (fun _ => True) hv (by omega) hIM _ hcap hcx hok hrA hxA
  unfold gramV at hpa
  have k0 := blk_cell hgA (i := 0) rfl
  have k1 := blk_cell hgA (i := 1) rfl
  have k2 := blk_cell hgA (i := 2) rfl
  have k3 := blk_cell hgA (i := 3) rfl
  go_wp2_with fail
  refine hpa.mono ?_
  rintro e2 w2 ⟨A8, c8, L0, rfl, hb2, hL0, hLM⟩
  have g2 := blk_below hb2 (blk_lt hgA) hgA
  rw [hsA] at hb2 hL0
  -- what lies below the rows
  have hr2 : IsSl Elt.rule (fun b => b < w1.heap.size + 1) w2 (.slice A' g.rules.length c') g.rules := ((hrA.old.weak (G := fun b => b < w1.heap.size + 1) fun b hb => by rw [hsA] at hb; exact hb.2).keep (fun b hb => hb2.block b hb) hb2.size)
  have hx2 : IsSl Elt.int (fun b => b < w1.heap.size + 1) w2 (.slice C x.length cx) x := ((hxA.old.weak (G := fun b => b < w1.heap.size + 1) fun b hb => by rw [hsA] at hb; exact hb.2).keep (fun b hb => hb2.block b hb) hb2.size)
  have hl2 : IsSl Elt.int (fun b => b < w1.heap.size + 1) w2 (.slice A3 n3 c3) l3 := ((hlA.old.weak (G := fun b => b < w1.heap.size + 1) fun b hb => by rw [hsA] at hb; exact hb.2).keep (fun b hb => hb2.block b hb) hb2.size)
  have hw2 := hwA.trans (by rw [← hsA] at hb2; exact hb2.mono hwA.size : Below w.heap.size _ w2)
  have hlow := sound_low hIM.2.1
  have hshort : Short x M := sound_short hIM.2.1 (entry_neg M)
  have hsl0 := hL0.isSl
  rw [hLM] at hsl0
  have hba := build_any (A := A') (c := c') (B := C) (d := cx) (C := A8) (q := c8) (fun _ => True) hv (by omega) w2 hcap hok (hr2.weak fun _ _ => trivial) (hx2.weak fun _ _ => trivial) (hsl0.weak fun _ _ => trivial) hIM.1 hlow hshort
  unfold gramV at hba
  have k0 := blk_cell g2 (i := 0) rfl
  have k1 := blk_cell g2 (i := 1) rfl
  have k2 := blk_cell g2 (i := 2) rfl
  have k3 := blk_cell g2 (i := 3) rfl
  clear hpa hgA hrA hxA hlA hsl0
  go_wp2_with fail
  refine hba.mono ?_
  rintro e3 w3 ⟨N3, cn3, rfl, hb3, hs3⟩
  clear hba k0 k1 k2 k3
  have hea := made_ok (M := M) hsm (show x.length ≤ 8 by omega)
  rw [hea]
  generalize hfe : (madeF g x M).1 = fa at hs3 ⊢
  have HFA := Lib.hid hfe
  have hbX := below1 w3 (.cells #[.slice N3 fa.nodes.length cn3, .int .i64 fa.root] 30)
  have gx := heap_alloc_new w3 (.cells #[.slice N3 fa.nodes.length cn3, .int .i64 fa.root] 30)
  have hbW := hb3.trans (hbX.mono hb3.size)
  have g4 := blk_below hbW (blk_lt g2) g2
  have hr4 := hr2.below hbW
  have hx4 := hx2.below hbW
  have hl4 := hl2.below hbW
  have hL4 := hL0.below hbW
  have hs4 := (hs3.below hbX).weak (G := fun b => w2.heap.size ≤ b) fun b hb => hb
  have hw4 := hw2.trans (hbW.mono hw2.size)
  have hsX := World.size_alloc w3 (.cells #[.slice N3 fa.nodes.length cn3, .int .i64 fa.root] 30)
  have hRB : ∀ b ∈ L0.map (·.1), w1.heap.size + 2 ≤ b ∧ b < w2.heap.size := fun b hb => by
    obtain ⟨r, hr, rfl⟩ := List.mem_map.1 hb
    exact ⟨(hL0.row r hr).1, blk_lt (hL0.row r hr).2.1⟩
  have hs23 := hb3.size
  have hw1s : w.heap.size ≤ w1.heap.size := by have := hw1.size; omega
  have hs12 := hb2.size
  rw [hsA] at hs12
  have HML := Lib.hid hIM.1.len
  clear hr2 hx2 hl2 hL0 hs3 hw2 hbX hbW hb3 hb2 g2 hfe hea hwA
  go_wp2_with fail
  generalize w3.alloc (.cells #[.slice N3 fa.nodes.length cn3, .int .i64 fa.root] 30) = W0 at gx g4 hr4 hx4 hl4 hL4 hs4 hw4 hsX ⊢
  have hRB0 : MaskAt W0 W0 (w1.heap.size + 1 + 1) (.slice A8 M.length c8) g x M (L0.map (·.1)) L0 := ⟨hL4, rfl, by rw [hLM]; exact hIM.1, by rw [hLM]; exact fewer_refl M, Away.refl _ _ _⟩
  have HR := Lib.hid hRB
  clear hRB hL4
  generalize L0.map (·.1) = RB at hRB0 HR
  have hm12 : x.length ≤ 12 := by omega
  have hMN : M.length ≤ 10 := by have := HML.out; have := hv.n10; omega
  go_loopg [36] M.length (fun gk i wr => ∃ (nn : Nat) (L : List (Nat × List Nat)), nn ≤ M.length ∧ gk = M.length - nn ∧ i = .int .i64 nn ∧ MaskAt W0 wr (w1.heap.size + 1 + 1) (.slice A8 M.length c8) g x M RB L)
  case atStart => exact ⟨0, L0, by omega, by omega, rfl, hRB0⟩
  case round =>
    clear hRB0
    obtain ⟨nn, L, hnn, rfl, rfl, hMk⟩ := hrel
    obtain ⟨wo, rfl⟩ : ∃ wo : World, wo = wr := ⟨_, rfl⟩
    by_cases hlt : nn < M.length
    · have hnz : (nn : Int) < (M.length : Int) := by omega
      have hLl : L.length = M.length := by have := hMk.shape.len; have := HML.out; rw [List.length_map] at *; omega
      obtain ⟨bo, hA8, hcell⟩ := hMk.rows.rowCell (k := nn) (by omega)
      obtain ⟨rb, hrb⟩ : ∃ rb, rb = L[nn].1 := ⟨_, rfl⟩
      have hrl : L[nn].2.length = x.length + 1 := hMk.shape.row _ (List.mem_map_of_mem (List.getElem_mem _))
      have hRBn : RB[nn]? = some rb := by rw [← hMk.fst, List.getElem?_map, List.getElem?_eq_getElem (by omega), hrb]; rfl
      unfold rowV at hcell
      rw [hrl, ← hrb] at hcell
      subst hA8
      clear hrb hrl
      go_wp2_with fail
      clear hcell
      go_loopg [43] (x.length + 1) (fun gk i wr => ∃ (i2 : Nat) (L : List (Nat × List Nat)), i2 ≤ x.length + 1 ∧ gk = x.length + 1 - i2 ∧ i = .int .i64 i2 ∧ MaskAt W0 wr (w1.heap.size + 1 + 1) (.slice (some ⟨bo, 0, none⟩) M.length c8) g x M RB L)
      case atStart => exact ⟨0, L, by omega, by omega, rfl, hMk⟩
      case round =>
        clear hMk hLl
        obtain ⟨i2, L', hi2, rfl, rfl, hMk⟩ := hrel
        obtain ⟨wi, rfl⟩ : ∃ wi : World, wi = wr := ⟨_, rfl⟩
        by_cases hlt2 : i2 < x.length + 1
        · have hiz : (i2 : Int) < (x.length : Int) + 1 := by omega
          by_cases h3 : 0 < n3
          · have h3z : decide ((0 : Int) < (n3 : Int)) = true := decide_eq_true (by omega)
            have h3y : 0 < n3 := h3
            have hLl : L'.length = M.length := by have := hMk.shape.len; have := HML.out; rw [List.length_map] at *; omega
            have hnL : nn < L'.length := by omega
            have hrb' : L'[nn].1 = rb := by
              have h := hRBn
              rw [← hMk.fst, List.getElem?_map, List.getElem?_eq_getElem hnL] at h
              exact Option.some.inj h
            have hrl : L'[nn].2.length = x.length + 1 := hMk.shape.row _ (List.mem_map_of_mem (List.getElem_mem _))
            have hrow := (hMk.rows.row L'[nn] (List.getElem_mem hnL)).2.1
            rw [hrb'] at hrow
            have hi2L : i2 < L'[nn].2.length := by omega
            obtain ⟨old, hold⟩ : ∃ old, old = L'[nn].2[i2]'hi2L := ⟨_, rfl⟩
            have hold32 : old < 2 ^ 32 := hold ▸ hMk.shape.small _ (List.mem_map_of_mem (List.getElem_mem _)) _ (List.getElem_mem _)
            have hcell : wi.cell? ⟨rb, i2, none⟩ = some (.int .u32 old) := blk_cell hrow (by rw [List.getElem?_toArray, List.getElem?_map, List.getElem?_eq_getElem hi2L, hold]; rfl)
            have hfro : wi.frozen? ⟨rb, i2, none⟩ = false := blk_free hrow
            have hput := fun (u : Nat) (h32 : u < 2 ^ 32) (hu : ∀ j, u.testBit j = true → old.testBit j = true) => hMk.put hnL hi2L h32 (hold ▸ hu)
            rw [hrb'] at hput
            -- the mask's number
            have hlm : IsSl Elt.int (fun b => b < w1.heap.size + 1) wi (.slice A3 n3 c3) l3 := hl4.keep (fun b hb => hMk.away.block b (by omega) (fun h => by have := (HR.out b h).1; omega)) hMk.away.size
            obtain ⟨k, hk⟩ : ∃ k : Nat, k = (nn * 7 + i2) % n3 := ⟨_, rfl⟩
            have hkl : k < n3 := by rw [hk]; exact Nat.mod_lt _ h3
            obtain ⟨b9, o9, hA3, _, hb9, hm9⟩ := hlm.oneAt k (by rw [← HN3.out]; exact hkl)
            have hkz : (k : Int) < (n3 : Int) := by omega
            have hmul : IntKind.i64.wrap ((nn : Int) * 7) = (nn : Int) * 7 := IntWalk.i64_in _ (by omega)
            have hadd : IntKind.i64.wrap ((nn : Int) * 7 + (i2 : Int)) = (nn : Int) * 7 + (i2 : Int) := IntWalk.i64_in _ (by omega)
            have hrem : Int.tmod ((nn : Int) * 7 + (i2 : Int)) (n3 : Int) = (k : Int) := by
              rw [show ((nn : Int) * 7 + (i2 : Int)) = ((nn * 7 + i2 : Nat) : Int) by omega, hk]
              rfl
            have hne0 : ((n3 : Int) == 0) = false := beq_eq_false_iff_ne.2 (by omega)
            have hne1 : ¬ n3 = 0 := by omega
            have hpos : 0 < (n3 : Int) := by omega
            generalize l3[k]'(by rw [← HN3.out]; exact hkl) = mk at hm9
            subst hA3
            obtain ⟨q, hq⟩ := Int.eq_ofNat_of_zero_le (Int.emod_nonneg mk (show (8192 : Int) ≠ 0 by decide))
            have hq2 : q < 8192 := by have := Int.emod_lt_of_pos mk (show (0 : Int) < 8192 by decide); omega
            have hbel : ∀ W : World, Calls Try.prog 30 #[.int .i64 mk, .int .i64 8192] W fun e w' => e = .returned (.int .i64 q) ∧ w' = W := fun W => by
              have := below_int mk 8192 W (by decide)
              rwa [hq] at this
            have hq32 : (q : Int) % 4294967296 = (q : Int) := Int.emod_eq_of_lt (by omega) (by omega)
            have hqw : IntKind.u32.wrap (q : Int) = (q : Int) := (wrap_u32 _).trans hq32
            have hand := u32_andNot_nat old q hold32 (by omega)
            have HPUT := Lib.hid hput
            have HBEL := Lib.hid hbel
            have HMK := Lib.hid hMk
            clear hput hbel hMk hrow hlm hq hk hold
            have hless : (old &&& (4294967295 - q)) < 2 ^ 32 := Nat.lt_of_le_of_lt Nat.and_le_left hold32
            have hP := Lib.hid (HPUT.out (old &&& (4294967295 - q)) hless fun j hj => by rw [Nat.testBit_and, Bool.and_eq_true] at hj; exact hj.1)
            generalize old &&& (4294967295 - q) = u at hand hless hP
            go_wp2_with fail
            go_region_law (first | (refine step_call rfl 30 Try.f30 Try.func30 (by kernel_rfl) (by kernel_rfl) [_, _] _ rfl [.int .i64 mk, .int .i64 8192] rfl _ (HBEL.out _) ?_; rintro e7 w7 ⟨rfl, rfl⟩; refine ⟨_, rfl, ?_⟩))
            all_goals
              go_wp2_with fail
              go_roundg (x.length + 1 - (i2 + 1))
              case measure => omega
              case rel => exact ⟨i2 + 1, _, by omega, rfl, by go_num, hP.out.below (Below.refl _ _).drew⟩
          · have h3y : n3 = 0 := by omega
            have h3z : decide ((0 : Int) < (n3 : Int)) = false := decide_eq_false (by omega)
            go_wp2_with fail
            go_roundg (x.length + 1 - (i2 + 1))
            case measure => omega
            case rel => exact ⟨i2 + 1, L', by omega, rfl, by go_num, hMk⟩
        · obtain rfl : i2 = x.length + 1 := by omega
          have hiz : ¬ (((x.length + 1 : Nat) : Int) < (x.length : Int) + 1) := by omega
          go_wp2_with fail
          go_roundg (M.length - (nn + 1))
          case measure => omega
          case rel => exact ⟨nn + 1, L', by omega, rfl, by go_num, hMk⟩
    · obtain rfl : nn = M.length := by omega
      have haw := hMk.away
      have hLl : (L.map (·.2)).length = M.length := by have := hMk.shape.len; have := HML.out; omega
      have hsl := hMk.rows.isSl
      have hsh := hMk.shape
      have hless := hMk.less
      have hlow' : MLow (L.map (·.2)) := fun n i j h => hlow n i j (hless n i j h)
      have hshort' : Short x (L.map (·.2)) := fun n i j h => hshort n i j (hless n i j h)
      have hnot1 : ∀ b, b < w1.heap.size + 1 → ¬ b ∈ RB := fun b hb h => by have := (HR.out b h).1; omega
      have hnot2 : ∀ b, w2.heap.size ≤ b → ¬ b ∈ RB := fun b hb h => by have := (HR.out b h).2; omega
      have g5 := (haw.block w1.heap.size (by omega) (hnot1 _ (by omega))).trans g4
      have hr5 := hr4.keep (fun b hb => haw.block b (by omega) (hnot1 _ hb)) haw.size
      have hx5 := hx4.keep (fun b hb => haw.block b (by omega) (hnot1 _ hb)) haw.size
      have gx5 := (haw.block w3.heap.size (by omega) (hnot2 _ (by omega))).trans gx
      have hs5 := (hs4.old.keep (fun b hb => haw.block b hb.2 (hnot2 _ hb.1)) haw.size).weak (G := fun _ => True) fun _ _ => trivial
      have hwsz := hw4.size
      have hw5 : Below w.heap.size w wo := ((Away.ofBelow (F := fun _ => False) hw4).trans (haw.mono hwsz fun b hb h => by have := (HR.out b h).1; have := hw1s; omega)).below fun _ _ h => h
      generalize L.map (·.2) = M' at hLl hsl hsh hless hlow' hshort'
      have hba2 := build_any (A := A') (c := c') (B := C) (d := cx) (C := A8) (q := c8) (fun _ => True) hv (by omega) wo hcap hok (hr5.weak fun _ _ => trivial) (hx5.weak fun _ _ => trivial) (by rw [hLl]; exact hsl.weak fun _ _ => trivial) hsh hlow' hshort'
      rw [hLl] at hba2
      unfold gramV at hba2
      have k0 := blk_cell g5 (i := 0) rfl
      have k1 := blk_cell g5 (i := 1) rfl
      have k2 := blk_cell g5 (i := 2) rfl
      have k3 := blk_cell g5 (i := 3) rfl
      have HBA := Lib.hid hba2
      clear hba2 hMk hsl hr5 hx5 haw hr4 hx4 hl4 hs4 gx g4 hlow' hshort' hsh
      go_wp2_with fail
      refine HBA.out.mono ?_
      rintro e6 w6 ⟨N6, cn6, rfl, hb6, hs6⟩
      have heb := made_ok (M := M') hsm (show x.length ≤ 8 by omega)
      have hfl := forest_less hsm (show x.length ≤ 8 by omega) hless
      rw [HFA.out] at hfl
      rw [heb]
      generalize (madeF g x M').1 = fb at hs6 hfl ⊢
      have hbY := below1 w6 (.cells #[.slice N6 fb.nodes.length cn6, .int .i64 fb.root] 30)
      have gy := heap_alloc_new w6 (.cells #[.slice N6 fb.nodes.length cn6, .int .i64 fb.root] 30)
      have hbZ := hb6.trans (hbY.mono hb6.size)
      have gx7 := blk_below hbZ (blk_lt gx5) gx5
      have hs7 := hs5.below hbZ
      have ht7 := (hs6.below hbY).weak (G := fun _ => True) fun _ _ => trivial
      have hw7 := hw5.trans (hbZ.mono hw5.size)
      have HFL := Lib.hid hfl
      clear k0 k1 k2 k3 g5 gx5 hs5 hs6 heb HBA hbZ hbY hb6 hw5 hfl
      go_wp2_with fail
      generalize w6.alloc (.cells #[.slice N6 fb.nodes.length cn6, .int .i64 fb.root] 30) = W7 at gy gx7 hs7 ht7 hw7 ⊢
      refine (woods_any W7).mono ?_
      rintro e8 w8 ⟨rfl, hb8⟩
      have gy8 := blk_below hb8 (blk_lt gy) gy
      have gx8 := blk_below hb8 (blk_lt gx7) gx7
      have hs8 := hs7.below hb8
      have ht8 := ht7.below hb8
      have hw8 := hw7.trans (hb8.mono hw7.size)
      have m0 := blk_cell gy8 (i := 0) rfl
      clear gy gx7 hs7 ht7 hw7 hb8
      go_wp2_with fail
      clear m0 gy8
      have hft := ht8.len.2
      have hbxl := blk_lt gx8
      go_loopg [94] fb.nodes.length (fun gk i wr => ∃ k : Nat, k ≤ fb.nodes.length ∧ gk = fb.nodes.length - k ∧ i = .int .i64 k ∧ Below w8.heap.size w8 wr)
      case atStart => exact ⟨0, by omega, by omega, rfl, Below.refl _ _⟩
      case round =>
        obtain ⟨k, hk, rfl, rfl, hbk⟩ := hrel
        obtain ⟨wk, rfl⟩ : ∃ wk : World, wk = wr := ⟨_, rfl⟩
        by_cases hlt : k < fb.nodes.length
        · obtain ⟨b5, o5, rfl, _, _, c0, c1, c2, c3, A5, c5, c4, _⟩ := (ht8.below hbk).nodeAt k hlt
          have hkz : (k : Int) < (fb.nodes.length : Int) := by omega
          have hex := HFL.out fb.nodes[k] (List.getElem_mem hlt)
          generalize fb.nodes[k] = nd at c0 c1 c2 c3 c4 hex
          have hbB := below1 wk (.cells #[.bool nd.y.t, .int .i64 nd.y.n, .int .i64 nd.i, .int .i64 nd.j, .slice A5 nd.packs.length c5] 40)
          have hrr := heap_alloc_new wk (.cells #[.bool nd.y.t, .int .i64 nd.y.n, .int .i64 nd.i, .int .i64 nd.j, .slice A5 nd.packs.length c5] 40)
          have hbk2 := hbk.trans (hbB.mono hbk.size)
          have gxk := blk_below hbk2 hbxl gx8
          have q0 := blk_cell gxk (i := 0) rfl
          have hsk := hs8.below hbk2
          have hex2 : ∃ m ∈ fa.nodes, decide (m.y = nd.y ∧ m.i = nd.i ∧ m.j = nd.j ∧ nd.packs.length ≤ m.packs.length) = true := by
            obtain ⟨m, hm, h⟩ := hex
            exact ⟨m, hm, decide_eq_true h⟩
          have hen : ∀ args w, (callFunc 31 args).run Try.prog w = .ok (.enter 31 args) w := enters_of Try.func31 (by kernel_rfl) rfl
          have hco := contains_node (F := fun _ => True) (id := 31) (caps := #[.pointer (some ⟨wk.heap.size, 0, none⟩)]) (fun m => decide (m.y = nd.y ∧ m.i = nd.i ∧ m.j = nd.j ∧ nd.packs.length ≤ m.packs.length)) fa.nodes N3 cn3 _ hsk hen (fun m B d W hb => lessNode_any nd m B d wk.heap.size A5 c5 W (blk_below hb (by rw [World.size_alloc]; omega) hrr)) hex2
          have HCO := Lib.hid hco
          clear hco hen hex hex2 hsk hrr
          go_wp2_with fail
          refine HCO.out.mono ?_
          rintro e9 w9 ⟨rfl, hb9⟩
          go_wp2_with fail
          go_roundg (fb.nodes.length - (k + 1))
          case measure => omega
          case rel => exact ⟨k + 1, by omega, rfl, by go_num, hbk2.trans (hb9.mono hbk2.size)⟩
        · obtain rfl : k = fb.nodes.length := by omega
          go_wp2_with fail
          go_ret
          exact ⟨rfl, hw8.trans (hbk.mono hw8.size)⟩
end Go.Proofs.Ytdbkbkopcnkgcaa
