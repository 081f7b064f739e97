import Derived.Test.YtdbkbkopcnkgcaaJoinQ
import Derived.Test.YtdbkbkopcnkgcaaTreeL
import Derived.Test.YtdbkbkopcnkgcaaParts
open Go Go.RowKit
namespace Go.Proofs.Ytdbkbkopcnkgcaa

/-! ### the law MeanJoined, over the fact means() -/
theorem sl_pre {P : Program} {t E : TypeId} (ht : P.underlying t = some (.slice E)) {size : Nat} (hz : ∀ w, (sizeOf E).run P w = .ok size w) {α : Type} {d : Elt α} {F : Nat → Prop} {w0 : World} {A : Option Addr} {n c : Nat} {xs : List α} (h : IsSl d F w0 (.slice A n c) xs) (hc : n ≤ c) (j : Nat) (hj : j ≤ n) :
    ∃ A', (∀ w : World, (Instr.slice t (.slice A n c) none (some (.int .i64 j)) none).run P w = .ok (.slice A' j c) w) ∧ IsSl d F w0 (.slice A' j c) (xs.take j) := by
  obtain ⟨rfl, hn⟩ := h.len
  refine ⟨if c = 0 then A else A.map (·.add (0 * size)), fun w => ?_, ?_⟩
  · have hjc : j ≤ c := by omega
    simp [Instr.slice, run_underlying ht, hz, Instr.sliceBounds, Instr.sliceBound, asIntOf, hjc]
  · obtain ⟨A', c', he, hl, h⟩ := h
    injection he with h1 h2 h3
    subst h1
    refine ⟨_, c, by rw [List.length_take, Nat.min_eq_left hj], by rw [List.length_take]; omega, fun k hk => ?_⟩
    rw [List.length_take] at hk
    obtain ⟨b, o, rfl, hb, hlt, he⟩ := h k (by omega)
    rw [if_neg (by omega)]
    refine ⟨b, o, by simp [add_lit], hb, hlt, ?_⟩
    rw [List.getElem_take]
    exact he
theorem sl_suf {P : Program} {t E : TypeId} (ht : P.underlying t = some (.slice E)) {size : Nat} (hz : ∀ w, (sizeOf E).run P w = .ok size w) {α : Type} {d : Elt α} (hd : d.sz = size) {F : Nat → Prop} {w0 : World} {A : Option Addr} {n c : Nat} {xs : List α} (h : IsSl d F w0 (.slice A n c) xs) (hc : n ≤ c) (i : Nat) (hi : i ≤ n) :
    ∃ A', (∀ w : World, (Instr.slice t (.slice A n c) (some (.int .i64 i)) none none).run P w = .ok (.slice A' (n - i) (c - i)) w) ∧ IsSl d F w0 (.slice A' (n - i) (c - i)) (xs.drop i) := by
  obtain ⟨rfl, hn⟩ := h.len
  refine ⟨if c = i then A else A.map (·.add (i * size)), fun w => ?_, ?_⟩
  · have hic : i ≤ c := by omega
    simp [Instr.slice, run_underlying ht, hz, Instr.sliceBounds, Instr.sliceBound, asIntOf, hi]
  · obtain ⟨A', c', he, hl, h⟩ := h
    injection he with h1 h2 h3
    subst h1
    refine ⟨_, c - i, by rw [List.length_drop], by rw [List.length_drop]; omega, fun k hk => ?_⟩
    rw [List.length_drop] at hk
    obtain ⟨b, o, rfl, hb, hlt, he⟩ := h (i + k) (by omega)
    rw [if_neg (by omega)]
    refine ⟨b, o + i * size, by simp [add_lit], hb, hlt, ?_⟩
    rw [List.getElem_drop, Nat.add_assoc, hd, ← Nat.add_mul, ← hd]
    exact he
/-- a write into a block of another type leaves rules as they are -/
theorem OwnRules.poke {w : World} {base b i : Nat} {v u : Value} {l : List Rule} {xs : List Value} {cs : Array Value} {T : TypeId} (h : OwnRules w base v l xs) (hb : w.heap[b]? = some (.cells cs T (0, 0))) (h1 : T ≠ 47) (h2 : T ≠ 37) : OwnRules (w.setCell ⟨b, i, none⟩ u) base v l xs :=
  ⟨own_keep h.own fun b' hb' => heap_set_ne (fun e => h1 (own_type h.own (by rw [hb', e]) hb)) _ _, fun k hk => by
    obtain ⟨k1, A, c, k2, k3⟩ := h.at_ k hk
    exact ⟨k1, A, c, k2, own_keep k3 fun b' hb' => heap_set_ne (fun e => h2 (own_type k3 (by rw [hb', e]) hb)) _ _⟩⟩

set_option maxRecDepth 100000 in
set_option maxHeartbeats 6400000 in
theorem meanJoined_any (F F2 : Nat → Prop) (l l2 : List Int) (A : Option Addr) (n c : Nat) (A2 : Option Addr) (n2 c2' : Nat) (w : World) (hl : IsSl Elt.int F w (.slice A n c) l) (hl2 : IsSl Elt.int F2 w (.slice A2 n2 c2') l2) (hnc : n ≤ c) :
    Calls Try.prog 10 #[.slice A n c, .slice A2 n2 c2'] w fun e w' => e = .returned (.bool true) ∧ Below w.heap.size w w' := by
  obtain ⟨ir, hir, hr0, hr2, hr3⟩ := info_parts Try.infoRule
  go_enter Try.func10, Try.ntmps10
  go_wp2_with fail
  refine (made_any F F2 l l2 A n c A2 n2 c2' 5 _ hl hl2 hnc (by decide)).mono ?_
  rintro e1 w1 ⟨g, A', c', x, C, cx, rfl, hM⟩
  have hv := hM.small.valid
  have hx5 := hM.most
  have hcap := hM.cap
  have hcx := hM.capx
  have hn4 := hM.small.n4
  have hr8 := hM.small.r8
  have hr1 := hM.small.r1
  have hok : OkWord g x := hM.terms
  have hw1 := hM.below
  have hbA := below1 w1 (.cells #[.int .i64 g.terms, .int .i64 g.nons, .int .i64 g.start, .slice A' g.rules.length c'] 25)
  have gg := heap_alloc_new w1 (.cells #[.int .i64 g.terms, .int .i64 g.nons, .int .i64 g.start, .slice A' g.rules.length c'] 25)
  have hrA := (hM.rules.below hbA).weak (G := fun _ => True) fun _ _ => trivial
  have hxA := (hM.word.below hbA).weak (G := fun _ => True) fun _ _ => trivial
  have hwA := hw1.trans (hbA.mono hw1.size)
  unfold gramV
  clear hM hl hl2 hw1 hbA
  have hn1 := hv.n1
  have hcp := copyOf_dist _ g A' c' _ hrA hv
  have k0 := blk_cell gg (i := 0) rfl
  have k1 := blk_cell gg (i := 1) rfl
  have k2 := blk_cell gg (i := 2) rfl
  have k3 := blk_cell gg (i := 3) rfl
  unfold gramV at hcp
  go_wp2_with fail
  generalize w1.alloc (.cells #[.int .i64 g.terms, .int .i64 g.nons, .int .i64 g.start, .slice A' g.rules.length c'] 25) = w3 at hwA gg hrA hxA hcp k0 k1 k2 k3 ⊢
  generalize w1.heap.size = bg at gg k0 k1 k2 k3 ⊢
  refine hcp.mono ?_
  rintro e4 w4 ⟨A4, c2, rfl, hb4, hcap4, -, xs, hO, -⟩
  have hgl := blk_lt gg
  have gg4 := blk_below hb4 hgl gg
  have hr4 := (hrA.old.weak (G := fun b => b < w3.heap.size) fun b hb => hb.2).keep (fun b hb => hb4.block b hb) hb4.size
  have hx4 := (hxA.old.weak (G := fun b => b < w3.heap.size) fun b hb => hb.2).keep (fun b hb => hb4.block b hb) hb4.size
  have hw4 := hwA.trans (hb4.mono hwA.size)
  have hwz := hwA.size
  have hbX := below1 w4 (.cells #[.int .i64 g.terms, .int .i64 g.nons, .int .i64 g.start, .slice A4 g.rules.length c2] 25)
  have gh := heap_alloc_new w4 (.cells #[.int .i64 g.terms, .int .i64 g.nons, .int .i64 g.start, .slice A4 g.rules.length c2] 25)
  have gg5 := blk_below hbX (blk_lt gg4) gg4
  have hO5 := hO.below hbX
  have hr5 := hr4.below hbX
  have hx5' := hx4.below hbX
  have hw5 := hw4.trans (hbX.mono hw4.size)
  have hs4 := hb4.size
  have hsX := World.size_alloc w4 (.cells #[.int .i64 g.terms, .int .i64 g.nons, .int .i64 g.start, .slice A4 g.rules.length c2] 25)
  clear hcp k0 k1 k2 k3 hO gg hrA hxA hwA gg4 hr4 hx4 hw4 hbX hb4
  go_wp2_with fail
  generalize w4.alloc (.cells #[.int .i64 g.terms, .int .i64 g.nons, .int .i64 g.start, .slice A4 g.rules.length c2] 25) = w5 at gh gg5 hO5 hr5 hx5' hw5 hsX ⊢
  generalize hbh : w4.heap.size = bh at gh hs4 hsX ⊢
  clear hbh
  -- two.Nons, two.Start
  have hgh : bg ≠ bh := by omega
  have m1 := blk_cell gg5 (i := 1) rfl
  have n1 := blk_cell gh (i := 1) rfl
  have f1 : w5.frozen? ⟨bh, 1, none⟩ = false := blk_free gh
  have gh1 := heap_set gh 1 (.int .i64 (g.nons + 1))
  have n2 := blk_cell gh1 (i := 2) rfl
  have f2 : (w5.setCell ⟨bh, 1, none⟩ (.int .i64 (g.nons + 1))).frozen? ⟨bh, 2, none⟩ = false := blk_free gh1
  have hadd : IntKind.i64.wrap (g.nons + 1) = g.nons + 1 := IntWalk.i64_in _ (by omega)
  have gh2 := heap_set gh1 2 (.int .i64 g.nons)
  have hO6 : OwnRules ((w5.setCell ⟨bh, 1, none⟩ (.int .i64 (g.nons + 1))).setCell ⟨bh, 2, none⟩ (.int .i64 g.nons)).drew (w3.heap.size + 3) (.slice A4 g.rules.length c2) g.rules xs := ((hO5.poke (i := 1) (u := .int .i64 (g.nons + 1)) gh (by decide) (by decide)).poke (i := 2) (u := .int .i64 g.nons) gh1 (by decide) (by decide)).below ((Below.refl _ _).drew)
  have hb6 : Below (w3.heap.size) w5 ((w5.setCell ⟨bh, 1, none⟩ (.int .i64 (g.nons + 1))).setCell ⟨bh, 2, none⟩ (.int .i64 g.nons)).drew := (((Below.refl _ _).setCell (p := ⟨bh, 1, none⟩) hs4 _).setCell (p := ⟨bh, 2, none⟩) hs4 _).drew
  have gh6 : ((w5.setCell ⟨bh, 1, none⟩ (.int .i64 (g.nons + 1))).setCell ⟨bh, 2, none⟩ (.int .i64 g.nons)).drew.heap[bh]? = some (.cells #[.int .i64 g.terms, .int .i64 (g.nons + 1), .int .i64 g.nons, .slice A4 g.rules.length c2] 25 (0, 0)) := gh2
  go_region
  generalize ((w5.setCell ⟨bh, 1, none⟩ (.int .i64 (g.nons + 1))).setCell ⟨bh, 2, none⟩ (.int .i64 g.nons)).drew = w6 at hO6 hb6 gh6 ⊢
  have hgl5 : bg < w3.heap.size := hgl
  have hz6 := hb6.size
  have gg6 := (hb6.block bg hgl5).trans gg5
  have hr6 := hr5.keep (w' := w6) (fun b hb => hb6.block b hb) hz6
  have hx6 := hx5'.keep (w' := w6) (fun b hb => hb6.block b hb) hz6
  have hw6 := hw5.trans (hb6.mono hwz)
  clear m1 n1 f1 n2 f2 gh1 gh2 gh gg5 hO5 hr5 hx5' hw5 hb6
  obtain ⟨nr, hnr⟩ : ∃ nr, nr = g.rules.length := ⟨_, rfl⟩
  have HNR := Lib.hid hnr
  have hbase : w3.heap.size + 3 ≤ w6.heap.size := by
    obtain ⟨b, cap, _, h1, h2⟩ := hO6.own.form (by omega : 0 < g.rules.length)
    omega
  rw [← hnr] at hO6 gh6 hr8 hr1
  have p1 := blk_cell gg6 (i := 1) rfl
  have p2 := blk_cell gg6 (i := 2) rfl
  have q3 := blk_cell gh6 (i := 3) rfl
  clear hnr
  obtain ⟨oS, hoS⟩ : ∃ o : Obj, o = .cells #[.bool false, .int .i64 g.start, .bool false, .int .i64 g.start] 37 := ⟨_, rfl⟩
  obtain ⟨oR, hoR⟩ : ∃ o : Obj, o = .cells #[.int .i64 g.nons, .slice (some ⟨w6.heap.size, 0, none⟩) 2 2] 47 := ⟨_, rfl⟩
  have hsym : ((w6.alloc oS).alloc oR).ownsRow (w3.heap.size + 3) 37 2 (.slice (some ⟨w6.heap.size, 0, none⟩) 2 2) 2 (symCells [⟨false, g.start⟩, ⟨false, g.start⟩]) := by
    rw [hoS]
    exact ⟨rfl, .inr ⟨w6.heap.size, 2, #[.bool false, .int .i64 g.start, .bool false, .int .i64 g.start], rfl, hbase, blk_new1 rfl _ _, Nat.le_refl _, by unfold maxLen; omega, rfl, rfl⟩⟩
  have hb7 := below2 w6 oS oR
  obtain ⟨W7, hW7⟩ : ∃ W7 : World, W7 = (w6.alloc oS).alloc oR := ⟨_, rfl⟩
  have hO7 := (hO6.alloc oS).alloc oR
  have gh7 := blk_below hb7 (blk_lt gh6) gh6
  have hs7 : W7.heap.size = w6.heap.size + 1 + 1 := by rw [hW7, World.size_alloc, World.size_alloc]
  rw [← hW7] at hb7 hO7 gh7 hsym
  have HO7 := Lib.hid hO7
  have HSY := Lib.hid hsym
  have hob7 := own_base' hO7.own
  have hw7 := hw6.trans (hb7.mono hw6.size)
  subst hoS hoR
  have hown7 := hO7.own
  have hcells : ∀ j u, [Value.int .i64 g.nons, .slice (some ⟨w6.heap.size, 0, none⟩) 2 2][j]? = some u → W7.cell? ⟨w6.heap.size + 1, j, none⟩ = some u := fun j u hj => by
    rw [hW7]
    exact blk_cell (blk_new' (by rw [World.size_alloc]) _) (by rw [← hj]; simp)
  clear hO7 hsym hO6
  go_wp2_with (first | (at_builtin; refine wpList_append_src _ rfl (.tmp 31) (.tmp 42) 23 rfl (w3.heap.size + 3) 47 ir (.agg #[.int .i64 0, .slice none 0 0]) 2 32 Try.underlying23 hir hr0 hr2 hr3 rfl (by decide) _ nr xs rfl ?ho (some ⟨w6.heap.size + 1, 0, none⟩) 1 1 [.int .i64 g.nons, .slice (some ⟨w6.heap.size, 0, none⟩) 2 2] rfl rfl ?c0 ?c1 ?c2 ?c3 ?c4 ?c5 ?_))
  case ho => rw [← hW7]; have := hown7; rwa [← HNR.out] at this
  case c0 => intro h; cases h
  case c1 => intro a ha j u hj; injection ha with ha; subst ha; rw [← hW7, add_lit, Nat.zero_add]; exact hcells j u hj
  case c2 => intro u hu; simp at hu; rcases hu with rfl | rfl <;> rfl
  case c3 => unfold maxLen; omega
  case c4 => omega
  case c5 => rw [← hW7]; omega
  intro v8 w8 hown8 hg8 hat8
  rw [← hW7] at hg8
  obtain ⟨A7, c7, rfl⟩ := own_form hown8
  have hO8 := HO7.out.snoc (r := ⟨g.nons, [⟨false, g.start⟩, ⟨false, g.start⟩]⟩) HSY.out hg8 (by rw [← HNR.out]; exact hown8)
  have gh8 := (hg8.block bh (blk_lt gh7) fun e => absurd (own_type hown7 e.symm gh7) (by decide)).trans gh7
  have z3 := blk_cell gh8 (i := 3) rfl
  have zf : w8.frozen? ⟨bh, 3, none⟩ = false := blk_free gh8
  have gh9 := heap_set gh8 3 (.slice A7 (nr + 1) c7)
  have hO9 := hO8.poke (i := 3) (u := .slice A7 (nr + 1) c7) gh8 (by decide) (by decide)
  have hb8 : Below w3.heap.size W7 w8 := (Below.refl _ W7).grown hg8 (by omega) fun j hj => by have := hob7 j hj; omega
  have hw8 : Below w.heap.size w w8 := hw7.trans (hb8.mono hwz)
  have hw9 : Below w.heap.size w (w8.setCell ⟨bh, 3, none⟩ (.slice A7 (nr + 1) c7)) := hw8.setCell (p := ⟨bh, 3, none⟩) (by show w.heap.size ≤ bh; omega) _
  have hb9 : Below w3.heap.size w6 (w8.setCell ⟨bh, 3, none⟩ (.slice A7 (nr + 1) c7)) := ((hb7.mono (by omega)).trans hb8).setCell (p := ⟨bh, 3, none⟩) hs4 _
  obtain ⟨W9, hW9⟩ : ∃ W9 : World, W9 = w8.setCell ⟨bh, 3, none⟩ (.slice A7 (nr + 1) c7) := ⟨_, rfl⟩
  have y0 := blk_cell gh9 (i := 0) rfl
  have y1 := blk_cell gh9 (i := 1) rfl
  have y2 := blk_cell gh9 (i := 2) rfl
  have y3 := blk_cell gh9 (i := 3) rfl
  have hz9 := hb9.size
  have gg9 := (hb9.block bg hgl5).trans gg6
  have hr9 := hr6.keep (w' := W9) (fun b hb => by rw [hW9]; exact hb9.block b hb) (by rw [hW9]; exact hz9)
  have hx9 := hx6.keep (w' := W9) (fun b hb => by rw [hW9]; exact hb9.block b hb) (by rw [hW9]; exact hz9)
  rw [← hW9] at gh9 hO9 hw9 hb9 hz9 gg9
  have HO9 := Lib.hid hO9
  have HV := Lib.hid hv
  have HX9 := Lib.hid hx9
  have HR9 := Lib.hid hr9
  have hvj := join_valid hv (by omega) (by rw [← HNR.out]; omega)
  have HVJ := Lib.hid hvj
  clear hO8 hO9 gh8 hown8 hg8 hat8 hown7 hcells hr6 hx6 gg6 gh6 gh7 hr9 hx9 hvj HO7 HSY hb8 hw8 hw7 hw6 hob7 hW7
  go_wp2_with fail
  rw [← hW9]
  clear hW9 z3 zf y0 y1 y2 y3
  have hlj : (joinG g).rules.length = nr + 1 := by show (g.rules ++ [_]).length = _; rw [List.length_append, HNR.out]; rfl
  have hcj : Calls Try.prog 32 #[.agg #[.int .i64 g.terms, .int .i64 (g.nons + 1), .int .i64 g.nons, .slice A7 (nr + 1) c7], .slice C x.length cx] W9 fun e w' => ∃ M, IsM (joinG g) x M ∧ e = .returned (.tuple #[.int .i64 (cntU (joinG g) x M), .int .i64 0]) ∧ Below W9.heap.size W9 w' := by
    have h := mcount_any (fun _ => True) (g := joinG g) (x := x) (A := A7) (c := c7) (B := C) (d := cx) HVJ.out (by omega) W9 HO9.out.cap hok (by rw [hlj]; exact HO9.out.isSl.weak fun _ _ => trivial) (HX9.out.weak fun _ _ => trivial)
    rw [hlj] at h
    exact h
  refine hcj.mono ?_
  rintro e10 w10 ⟨M2, hM2, rfl, hb10⟩
  obtain ⟨Ma, hMa⟩ := Classical.axiomOfChoice (fun k : Nat => isM_ex (g := g) (x := x.take k) hv (by rw [List.length_take]; omega))
  obtain ⟨Mb, hMb⟩ := Classical.axiomOfChoice (fun k : Nat => isM_ex (g := g) (x := x.drop k) hv (by rw [List.length_drop]; omega))
  obtain ⟨a, ha⟩ : ∃ a : Nat → Int, a = fun k => cntU g (x.take k) (Ma k) := ⟨_, rfl⟩
  obtain ⟨b, hb⟩ : ∃ b : Nat → Int, b = fun k => cntU g (x.drop k) (Mb k) := ⟨_, rfl⟩
  have htot := join_count hv HVJ.out hM2 a b (fun k _ => ⟨Ma k, hMa k, by rw [ha]⟩) (fun k _ => ⟨Mb k, hMb k, by rw [hb]⟩)
  have HA := Lib.hid (fun (k : Nat) (M : List (List Nat)) (h : IsM g (x.take k) M) => show cntU g (x.take k) M = a k by rw [ha]; rw [h.unique (hMa k)])
  have HB := Lib.hid (fun (k : Nat) (M : List (List Nat)) (h : IsM g (x.drop k) M) => show cntU g (x.drop k) M = b k by rw [hb]; rw [h.unique (hMb k)])
  have HAV := Lib.hid (fun k : Nat => show CntV (a k) by
    rw [ha]
    unfold cntU
    simp only
    split
    · exact valW_v _
    · unfold CntV maxCount; omega)
  have HBV := Lib.hid (fun k : Nat => show CntV (b k) by
    rw [hb]
    unfold cntU
    simp only
    split
    · exact valW_v _
    · unfold CntV maxCount; omega)
  generalize cntU (joinG g) x M2 = cu at htot ⊢
  rw [List.range_eq_range'] at htot
  have HTOT := Lib.hid htot.symm
  clear hcj ha hb htot hMa hMb hM2 Ma Mb hlj HVJ HO9 hbase
  have hw10 := hw9.trans (hb10.mono hw9.size)
  go_wp2_with fail
  refine (means_any w10).mono ?_
  rintro e11 w11 ⟨rfl, hb11⟩
  have hB11 : Below W9.heap.size W9 w11 := hb10.trans (hb11.mono hb10.size)
  have hw11 := hw10.trans (hb11.mono hw10.size)
  have hcg : nr ≤ c' := by rw [HNR.out]; exact hcap
  clear hb10 hb11 hw10
  go_wp2_with fail
  go_loopg [60, 9] (x.length + 1) (fun gk i sv wr => ∃ (k : Nat) (s : Int), k ≤ x.length + 1 ∧ gk = x.length + 1 - k ∧ i = .int .i64 k ∧ sv = .int .i64 s ∧ CntV s ∧ Below W9.heap.size W9 wr ∧ (List.range' k (x.length + 1 - k)).foldl (joinS a b) s = cu)
  case atStart => exact ⟨0, 0, Nat.zero_le _, rfl, rfl, rfl, by unfold CntV maxCount; omega, hB11, HTOT.out⟩
  case round =>
    clear hB11
    obtain ⟨k, s, hk, rfl, rfl, rfl, hsv, hB, hfo⟩ := hrel
    obtain ⟨WW, rfl⟩ : ∃ WW : World, WW = wr := ⟨_, rfl⟩
    have hszW := hB.size
    by_cases hlt : k < x.length + 1
    · have hkz : (k : Int) < (x.length : Int) + 1 := by omega
      have hkx : k ≤ x.length := by omega
      rw [show x.length + 1 - k = (x.length + 1 - (k + 1)) + 1 by omega, List.range'_succ, List.foldl_cons] at hfo
      have hggW := (hB.block bg (by omega)).trans gg9
      have k0 := blk_cell hggW (i := 0) rfl
      have k1 := blk_cell hggW (i := 1) rfl
      have k2 := blk_cell hggW (i := 2) rfl
      have k3 := blk_cell hggW (i := 3) rfl
      rw [← HNR.out] at k3
      have hxW := HX9.out.keep (w' := WW) (fun b hb => hB.block b (by omega)) hszW
      have hrW := HR9.out.keep (w' := WW) (fun b hb => hB.block b (by omega)) hszW
      obtain ⟨Cp, hsp, hxp⟩ := sl_pre (P := Try.prog) Try.underlying22 Try.sizeOf3 hxW hcx k hkx
      have hlp : (x.take k).length = k := by rw [List.length_take]; omega
      have hbd : Below WW.heap.size WW WW.drew := (Below.refl _ _).drew
      have hca := mcount_any (fun _ => True) (g := g) (x := x.take k) (A := A') (c := c') (B := Cp) (d := cx) hv (by omega) WW.drew hcap (fun t ht => hok t (List.mem_of_mem_take ht)) ((hrW.below hbd).weak fun _ _ => trivial) (by rw [hlp]; exact (hxp.below hbd).weak fun _ _ => trivial)
      unfold gramV at hca
      rw [hlp, ← HNR.out] at hca
      have HCA := Lib.hid hca
      have HFO := Lib.hid hfo
      clear hca hfo hxp hbd hlp
      go_wp2_with fail
      refine wp_region_any (by kernel_rfl) ?_
      change wpAny _ _ _ _ _ _ _ (World.drew _)
      refine wpAny_take (i := 1) (v := ?_) rfl (by kernel_rfl) (by kernel_rfl) (by kernel_rfl) (fun _ _ _ h => h) (Or.inl ⟨by go_simp, ?_⟩) ?_
      rotate_left
      · (intro w'; go_simp; first | done | with_reducible rfl)
      refine wpAny_take (i := 2) (v := ?_) rfl (by kernel_rfl) (by kernel_rfl) (by kernel_rfl) (fun _ _ _ h => h) (Or.inl ⟨by go_simp, ?_⟩) ?_
      rotate_left
      · (intro w'; go_simp; first | done | with_reducible rfl)
      refine wpAny_take (i := 3) (v := .slice Cp k cx) rfl (by kernel_rfl) (by kernel_rfl) (by kernel_rfl) (fun _ _ _ h => h) (Or.inl ⟨by go_simp, ?_⟩) ?_
      · intro w'
        have yy := hsp w'
        go_simp
      refine wpAny_of_D (S := fun w' => w' = WW.drew) (dep := 4) _ _ _ _ ?_
      refine wpAnyD_load (i := 0) (v := .agg #[.int .i64 g.terms, .int .i64 g.nons, .int .i64 g.start, .slice A' nr c']) [4] rfl (by kernel_rfl) (by kernel_rfl) (by kernel_rfl) (by kernel_rfl) (by kernel_rfl) (by kernel_rfl) (by kernel_rfl) (fun _ _ _ h => h) (by go_simp) ?_ rfl ?_
      · (intro w' hS; subst hS; go_simp)
      refine wpAnyD_each (rs := [4]) (by kernel_rfl) (by simp) ?_
      refine EachD.cons (i := 4) (o := _) rfl (fun KK hKK => ?_) EachD.nil
      simp only [List.getElem_toArray, List.getElem_cons_succ, List.getElem_cons_zero]
      refine step_call rfl 32 Try.f32 Try.func32 (by kernel_rfl) (by kernel_rfl) [.tmp 64, .tmp 67] #[25, 22] (by rfl) [.agg #[.int .i64 g.terms, .int .i64 g.nons, .int .i64 g.start, .slice A' nr c'], .slice Cp k cx] (by kernel_rfl) _ HCA.out ?_
      rintro e5 w5 ⟨Mk, hMk, rfl, hb5⟩
      refine ⟨_, rfl, ?_⟩
      try go_simp
      refine hKK _ _ (fun e => Bool.noConfusion (show true = false from e)) ?_
      clear hKK KK
      refine wpAnyD_of _ _ _ _ (by kernel_rfl) ?_
      refine wpAny_take (i := 5) (v := ?_) rfl (by kernel_rfl) (by kernel_rfl) (by kernel_rfl) (fun _ _ _ h => h) (Or.inl ⟨by go_simp, ?_⟩) ?_
      rotate_left
      · (intro w'; go_simp; first | done | with_reducible rfl)
      refine wpAny_take (i := 6) (v := ?_) rfl (by kernel_rfl) (by kernel_rfl) (by kernel_rfl) (fun _ _ _ h => h) (Or.inl ⟨by go_simp, ?_⟩) ?_
      rotate_left
      · (intro w'; go_simp; first | done | with_reducible rfl)
      refine wpAny_take (i := 7) (v := ?_) rfl (by kernel_rfl) (by kernel_rfl) (by kernel_rfl) (fun _ _ _ h => h) (Or.inl ⟨by go_simp, ?_⟩) ?_
      rotate_left
      · (intro w'; go_simp; first | done | with_reducible rfl)
      refine wpAny_take (i := 8) (v := ?_) rfl (by kernel_rfl) (by kernel_rfl) (by kernel_rfl) (fun _ _ _ h => h) (Or.inl ⟨by go_simp, ?_⟩) ?_
      rotate_left
      · (intro w'; go_simp; first | done | with_reducible rfl)
      refine wpAny_take (i := 9) (v := ?_) rfl (by kernel_rfl) (by kernel_rfl) (by kernel_rfl) (fun _ _ _ h => h) (Or.inl ⟨by go_simp, ?_⟩) ?_
      rotate_left
      · (intro w'; go_simp; first | done | with_reducible rfl)
      refine wpAny_done (by kernel_rfl) ?_ _
      have hav := HA.out k Mk hMk
      rw [hav]
      have hB5 : Below W9.heap.size W9 w5 := (hB.trans ((Below.refl _ _).drew)).trans (hb5.mono (by show W9.heap.size ≤ WW.heap.size; exact hszW))
      clear hMk hb5 hav HCA k0 k1 k2 k3 hggW hsp hxW hrW hB hszW
      have hszW := hB5.size
      have hggW := (hB5.block bg (by omega)).trans gg9
      have hxW := HX9.out.keep (w' := w5) (fun b hb => hB5.block b (by omega)) hszW
      have hrW := HR9.out.keep (w' := w5) (fun b hb => hB5.block b (by omega)) hszW
      obtain ⟨WW, rfl⟩ : ∃ WW : World, WW = w5 := ⟨_, rfl⟩
      have k0 := blk_cell hggW (i := 0) rfl
      have k1 := blk_cell hggW (i := 1) rfl
      have k2 := blk_cell hggW (i := 2) rfl
      have k3 := blk_cell hggW (i := 3) rfl
      rw [← HNR.out] at k3
      obtain ⟨Cq, hsq, hxq⟩ := sl_suf (P := Try.prog) Try.underlying22 Try.sizeOf3 rfl hxW hcx k hkx
      have hlq : (x.drop k).length = x.length - k := by rw [List.length_drop]
      have hbd : Below WW.heap.size WW WW.drew := (Below.refl _ _).drew
      have hcb := mcount_any (fun _ => True) (g := g) (x := x.drop k) (A := A') (c := c') (B := Cq) (d := cx - k) hv (by omega) WW.drew hcap (fun t ht => hok t (List.mem_of_mem_drop ht)) ((hrW.below hbd).weak fun _ _ => trivial) (by rw [hlq]; exact (hxq.below hbd).weak fun _ _ => trivial)
      unfold gramV at hcb
      rw [hlq, ← HNR.out] at hcb
      have HCB := Lib.hid hcb
      clear hcb hxq hbd hlq
      go_wp2_with fail
      refine wp_region_any (by kernel_rfl) ?_
      change wpAny _ _ _ _ _ _ _ (World.drew _)
      refine wpAny_take (i := 1) (v := ?_) rfl (by kernel_rfl) (by kernel_rfl) (by kernel_rfl) (fun _ _ _ h => h) (Or.inl ⟨by go_simp, ?_⟩) ?_
      rotate_left
      · (intro w'; go_simp; first | done | with_reducible rfl)
      refine wpAny_take (i := 2) (v := ?_) rfl (by kernel_rfl) (by kernel_rfl) (by kernel_rfl) (fun _ _ _ h => h) (Or.inl ⟨by go_simp, ?_⟩) ?_
      rotate_left
      · (intro w'; go_simp; first | done | with_reducible rfl)
      refine wpAny_take (i := 3) (v := .slice Cq (x.length - k) (cx - k)) rfl (by kernel_rfl) (by kernel_rfl) (by kernel_rfl) (fun _ _ _ h => h) (Or.inl ⟨by go_simp, ?_⟩) ?_
      · intro w'
        have yy := hsq w'
        go_simp
      refine wpAny_of_D (S := fun w' => w' = WW.drew) (dep := 4) _ _ _ _ ?_
      refine wpAnyD_load (i := 0) (v := .agg #[.int .i64 g.terms, .int .i64 g.nons, .int .i64 g.start, .slice A' nr c']) [4] rfl (by kernel_rfl) (by kernel_rfl) (by kernel_rfl) (by kernel_rfl) (by kernel_rfl) (by kernel_rfl) (by kernel_rfl) (fun _ _ _ h => h) (by go_simp) ?_ rfl ?_
      · (intro w' hS; subst hS; go_simp)
      refine wpAnyD_each (rs := [4]) (by kernel_rfl) (by simp) ?_
      refine EachD.cons (i := 4) (o := _) rfl (fun KK hKK => ?_) EachD.nil
      simp only [List.getElem_toArray, List.getElem_cons_succ, List.getElem_cons_zero]
      refine step_call rfl 32 Try.f32 Try.func32 (by kernel_rfl) (by kernel_rfl) [.tmp 72, .tmp 75] #[25, 22] (by rfl) [.agg #[.int .i64 g.terms, .int .i64 g.nons, .int .i64 g.start, .slice A' nr c'], .slice Cq (x.length - k) (cx - k)] (by kernel_rfl) _ HCB.out ?_
      rintro e5 w6 ⟨Mk, hMk, rfl, hb5⟩
      refine ⟨_, rfl, ?_⟩
      try go_simp
      refine hKK _ _ (fun e => Bool.noConfusion (show true = false from e)) ?_
      clear hKK KK
      refine wpAnyD_of _ _ _ _ (by kernel_rfl) ?_
      refine wpAny_take (i := 5) (v := ?_) rfl (by kernel_rfl) (by kernel_rfl) (by kernel_rfl) (fun _ _ _ h => h) (Or.inl ⟨by go_simp, ?_⟩) ?_
      rotate_left
      · (intro w'; go_simp; first | done | with_reducible rfl)
      refine wpAny_take (i := 6) (v := ?_) rfl (by kernel_rfl) (by kernel_rfl) (by kernel_rfl) (fun _ _ _ h => h) (Or.inl ⟨by go_simp, ?_⟩) ?_
      rotate_left
      · (intro w'; go_simp; first | done | with_reducible rfl)
      refine wpAny_take (i := 7) (v := ?_) rfl (by kernel_rfl) (by kernel_rfl) (by kernel_rfl) (fun _ _ _ h => h) (Or.inl ⟨by go_simp, ?_⟩) ?_
      rotate_left
      · (intro w'; go_simp; first | done | with_reducible rfl)
      refine wpAny_take (i := 8) (v := ?_) rfl (by kernel_rfl) (by kernel_rfl) (by kernel_rfl) (fun _ _ _ h => h) (Or.inl ⟨by go_simp, ?_⟩) ?_
      rotate_left
      · (intro w'; go_simp; first | done | with_reducible rfl)
      refine wpAny_take (i := 9) (v := ?_) rfl (by kernel_rfl) (by kernel_rfl) (by kernel_rfl) (fun _ _ _ h => h) (Or.inl ⟨by go_simp, ?_⟩) ?_
      rotate_left
      · (intro w'; go_simp; first | done | with_reducible rfl)
      refine wpAny_done (by kernel_rfl) ?_ _
      have hbv := HB.out k Mk hMk
      rw [hbv]
      have hB6 : Below W9.heap.size W9 w6 := (hB5.trans ((Below.refl _ _).drew)).trans (hb5.mono (by show W9.heap.size ≤ WW.heap.size; exact hszW))
      clear hMk hb5 hbv HCB k0 k1 k2 k3 hggW hsq hxW hrW hB5 hszW
      have hva := HAV.out k
      have hvb := HBV.out k
      have hstep : joinS a b s k = (if a k = 0 ∨ b k = 0 then s else if a k = -1 ∨ b k = -1 ∨ s = -1 then -1 else min (s + min (a k * b k) maxCount) maxCount) := rfl
      generalize a k = ak at hstep hva ⊢
      generalize b k = bk at hstep hvb ⊢
      have HST := Lib.hid hstep
      clear hstep
      unfold CntV maxCount at hva hvb
      have hsv2 := hsv
      unfold CntV maxCount at hsv2
      by_cases h0 : ak = 0
      · have HR := Lib.hid (HST.out.trans (if_pos (.inl h0)))
        subst h0
        go_wp2_with fail
        go_roundg (x.length + 1 - (k + 1))
        case measure => omega
        case rel => exact ⟨k + 1, s, by omega, rfl, by go_num, rfl, hsv, hB6, by have := HFO.out; rwa [HR.out] at this⟩
      · have z0 : (ak == 0) = false := by simpa using h0
        by_cases h1 : bk = 0
        · have HR := Lib.hid (HST.out.trans (if_pos (.inr h1)))
          subst h1
          go_wp2_with fail
          go_roundg (x.length + 1 - (k + 1))
          case measure => omega
          case rel => exact ⟨k + 1, s, by omega, rfl, by go_num, rfl, hsv, hB6, by have := HFO.out; rwa [HR.out] at this⟩
        · have z1 : (bk == 0) = false := by simpa using h1
          have hst2 := HST.out.trans (if_neg (by rintro (h | h); exact h0 h; exact h1 h))
          by_cases h2 : ak = -1
          · have HR := Lib.hid (hst2.trans (if_pos (.inl h2)))
            clear hst2
            subst h2
            go_wp2_with fail
            go_roundg (x.length + 1 - (k + 1))
            case measure => omega
            case rel => exact ⟨k + 1, -1, by omega, rfl, by go_num, rfl, by unfold CntV maxCount; omega, hB6, by have := HFO.out; rwa [HR.out] at this⟩
          · have z2 : (ak == -1) = false := by simpa using h2
            by_cases h3 : bk = -1
            · have HR := Lib.hid (hst2.trans (if_pos (.inr (.inl h3))))
              clear hst2
              subst h3
              go_wp2_with fail
              go_roundg (x.length + 1 - (k + 1))
              case measure => omega
              case rel => exact ⟨k + 1, -1, by omega, rfl, by go_num, rfl, by unfold CntV maxCount; omega, hB6, by have := HFO.out; rwa [HR.out] at this⟩
            · have z3 : (bk == -1) = false := by simpa using h3
              by_cases h4 : s = -1
              · have HR := Lib.hid (hst2.trans (if_pos (.inr (.inr h4))))
                clear hst2
                subst h4
                go_wp2_with fail
                go_roundg (x.length + 1 - (k + 1))
                case measure => omega
                case rel => exact ⟨k + 1, -1, by omega, rfl, by go_num, rfl, by unfold CntV maxCount; omega, hB6, by have := HFO.out; rwa [HR.out] at this⟩
              · have z4 : (s == -1) = false := by simpa using h4
                have HR := Lib.hid (show joinS a b s k = min (s + min (ak * bk) 1000000000) 1000000000 from hst2.trans (if_neg (by rintro (h | h | h); exact h2 h; exact h3 h; exact h4 h)))
                have hp1 : 0 ≤ ak * bk := Int.mul_nonneg (by omega) (by omega)
                have hp2 : ak * bk ≤ 1000000000 * 1000000000 := Int.mul_le_mul (by omega) (by omega) (by omega) (by omega)
                have hmul : IntKind.i64.wrap (ak * bk) = ak * bk := IntWalk.i64_in _ (by omega)
                have hadd2 : IntKind.i64.wrap (s + min (ak * bk) 1000000000) = s + min (ak * bk) 1000000000 := IntWalk.i64_in _ (by omega)
                clear hst2
                go_wp2_with fail
                go_roundg (x.length + 1 - (k + 1))
                case measure => omega
                case rel => exact ⟨k + 1, min (s + min (ak * bk) 1000000000) 1000000000, by omega, rfl, by go_num, rfl, by unfold CntV maxCount; omega, hB6, by have := HFO.out; rwa [HR.out] at this⟩
    · obtain rfl : k = x.length + 1 := by omega
      have hkz : ¬ (((x.length + 1 : Nat) : Int) < (x.length : Int) + 1) := by omega
      rw [Nat.sub_self] at hfo
      have hcu : s = cu := hfo
      subst hcu
      have hwf : Below w.heap.size w WW := hw9.trans (hB.mono hw9.size)
      clear hfo hB
      go_wp2_with fail
      go_ret
      exact ⟨rfl, hwf⟩
end Go.Proofs.Ytdbkbkopcnkgcaa
