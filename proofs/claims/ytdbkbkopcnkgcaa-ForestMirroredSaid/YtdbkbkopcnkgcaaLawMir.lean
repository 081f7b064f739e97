import Derived.Test.YtdbkbkopcnkgcaaNodeMir
import Derived.Test.YtdbkbkopcnkgcaaWoodFact
open Go Go.RowKit
namespace Go.Proofs.Ytdbkbkopcnkgcaa

/-! ### the law ForestMirrored -/
theorem made_in {g : Gram} {x : List Int} {M : List (List Nat)} (hs : Small g) (hx : x.length ≤ 8) : ∀ n ∈ (madeF g x M).1.nodes, n.i ≤ x.length ∧ n.j ≤ x.length := by
  intro n hn
  cases h : (entry M g.start 0).testBit x.length
  · rw [made_empty h] at hn; cases hn
  · obtain ⟨s, h1, h2⟩ := made_small hs hx h
    rw [h2] at hn
    simp only [forestF, List.mem_map] at hn
    obtain ⟨p, hp, rfl⟩ := hn
    obtain ⟨_, _, h3, h4⟩ := of_partsF (h1.ok p ((h1.keys p).1 (mem_keysF.1 hp)))
    exact ⟨h3, h4⟩

theorem rev_clone {w : World} {base c : Nat} {A : Option Addr} {x : List Int} (h : w.ownsRow base 3 1 (.slice A x.length c) x.length (x.map (Value.int .i64))) (hl : x.length ≤ 1000000) :
    Calls Try.prog 22 #[.slice A x.length c] w fun e w' => e = .returned (.tuple #[]) ∧ IsSl Elt.int (fun b => base ≤ b) w' (.slice A x.length c) x.reverse ∧ Below base w w' := by
  rcases h.2 with ⟨he, hn⟩ | ⟨g', cap, cur, he, _⟩
  · injection he with e1 e2 e3
    subst e1
    subst e3
    have hx : x = [] := List.eq_nil_of_length_eq_zero hn
    subst hx
    refine (reverse_none_int w).mono ?_
    rintro e w' ⟨rfl, rfl⟩
    exact ⟨rfl, ⟨none, 0, rfl, by simp, fun k hk => absurd hk (by simp)⟩, Below.refl _ _⟩
  · injection he with e1 e2 e3
    subst e1
    obtain ⟨cs, hcs, hb⟩ := own_typed h g' rfl
    have hat : IntsAt w g' x := ⟨cs, hcs, fun z hz => by
      have k1 := h.cells (g := g') rfl z (.int .i64 x[z]) (by rw [List.getElem?_map, List.getElem?_eq_getElem hz]; rfl)
      rw [add_lit0, cell_of_row w g' _ cs _ _ hcs] at k1
      exact k1⟩
    refine (reverse_int x g' c w hat hl).mono ?_
    rintro e w' ⟨rfl, h2, ha⟩
    refine ⟨rfl, ?_, ?_⟩
    · have := h2.isSl (fun b => base ≤ b) hb c (by rw [List.length_reverse]; omega)
      rwa [List.length_reverse] at this
    · have hlt := blk_lt hcs
      exact (ha.mono (m := base) (G := fun _ => False) (by omega) fun b hb2 e => by omega).below fun _ _ h => h

set_option maxRecDepth 100000 in
set_option maxHeartbeats 6400000 in
theorem forestMirrored_any (F F2 : Nat → Prop) (l l2 : List Int) (A : Option Addr) (n c : Nat) (A2 : Option Addr) (n2 c2 : Nat) (w : World) (hl : IsSl Elt.int F w (.slice A n c) l) (hl2 : IsSl Elt.int F2 w (.slice A2 n2 c2) l2) (hnc : n ≤ c) :
    Calls Try.prog 4 #[.slice A n c, .slice A2 n2 c2] w fun e w' => e = .returned (.bool true) ∧ Below w.heap.size w w' := by
  have hb0 := below1 w (.cells #[.slice A2 n2 c2] 22)
  have hk0 := heap_alloc_new w (.cells #[.slice A2 n2 c2] 22)
  have hf0 : (w.alloc (.cells #[.slice A2 n2 c2] 22)).frozen? ⟨w.heap.size, 0, none⟩ = false := blk_free hk0
  go_enter Try.func4, Try.ntmps4
  go_wp2_with fail
  refine (made_any F F2 l l2 A n c A2 n2 c2 6 _ (hl.below hb0) (hl2.below hb0) hnc (by decide)).mono ?_
  rintro e1 w1 ⟨g, A', c', x, C, cx, rfl, hM⟩
  have hsm := hM.small
  have hv := hM.small.valid
  have hx6 := hM.most
  have hcap := hM.cap
  have hcx := hM.capx
  have hok : OkWord g x := hM.terms
  have hs0 := World.size_alloc w (.cells #[.slice A2 n2 c2] 22)
  have hk1 := blk_below hM.below (by rw [World.size_alloc]; omega) hk0
  have hw1 := hb0.trans (hM.below.mono hb0.size)
  have hl1 := blk_lt hk1
  have c0 := blk_cell hk1 (i := 0) rfl
  have f0 : w1.frozen? ⟨w.heap.size, 0, none⟩ = false := blk_free hk1
  have hsz1 : (w1.setCell ⟨w.heap.size, 0, none⟩ (.slice C x.length cx)).heap.size = w1.heap.size := size_setCell _ _ _
  have hwA : Below w.heap.size w ((w1.setCell ⟨w.heap.size, 0, none⟩ (.slice C x.length cx)).alloc (.cells #[.int .i64 g.terms, .int .i64 g.nons, .int .i64 g.start, .slice A' g.rules.length c'] 25)) := (hw1.setCell (p := ⟨w.heap.size, 0, none⟩) (Nat.le_refl _) _).alloc (by rw [size_setCell]; exact hw1.size) _
  have hbB := below1 (w1.setCell ⟨w.heap.size, 0, none⟩ (.slice C x.length cx)) (.cells #[.int .i64 g.terms, .int .i64 g.nons, .int .i64 g.start, .slice A' g.rules.length c'] 25)
  have hkB : (w1.setCell ⟨w.heap.size, 0, none⟩ (.slice C x.length cx)).heap[w.heap.size]? = some (.cells #[.slice C x.length cx] 22 (0, 0)) := by rw [heap_set hk1]; rfl
  have gw := blk_below hbB (blk_lt hkB) hkB
  have gg := heap_alloc_new (w1.setCell ⟨w.heap.size, 0, none⟩ (.slice C x.length cx)) (.cells #[.int .i64 g.terms, .int .i64 g.nons, .int .i64 g.start, .slice A' g.rules.length c'] 25)
  rw [hsz1] at gg
  have hrA := (((hM.rules.weak (G := fun b => b ≠ w.heap.size) fun b hb => by rw [World.size_alloc] at hb; omega).keep (fun b hb => heap_set_ne hb _ _) (by rw [size_setCell]; exact Nat.le_refl _)).below hbB).weak (G := fun _ => True) fun _ _ => trivial
  have hxA := (((hM.word.weak (G := fun b => b ≠ w.heap.size) fun b hb => by rw [World.size_alloc] at hb; omega).keep (fun b hb => heap_set_ne hb _ _) (by rw [size_setCell]; exact Nat.le_refl _)).below hbB).weak (G := fun _ => True) fun _ _ => trivial
  unfold gramV
  clear hM hl hl2 hb0 hk0 hf0 hk1 hbB hkB
  go_upto_region 2 with (fail)
  generalize (w1.setCell ⟨w.heap.size, 0, none⟩ (.slice C x.length cx)).alloc (.cells #[.int .i64 g.terms, .int .i64 g.nons, .int .i64 g.start, .slice A' g.rules.length c'] 25) = W at hwA gw gg hrA hxA ⊢
  clear c0 f0 hsz1 hw1 hl1
  generalize w1.heap.size = bg at gg ⊢
  have hcl := clone_ints _ x C _ cx W hxA (by omega)
  have v0 := blk_cell gw (i := 0) rfl
  go_wp2_with fail
  refine hcl.mono ?_
  rintro e2 w2 ⟨A9, c9, rfl, hb2, hown⟩
  have hrev := rev_clone hown (by omega)
  have hw2 := hwA.trans (hb2.mono hwA.size)
  have gw2 := blk_below hb2 (blk_lt gw) gw
  have gg2 := blk_below hb2 (blk_lt gg) gg
  have hr2 := hrA.below hb2
  have hx2 := hxA.below hb2
  have hwl := blk_lt gw
  have hgl := blk_lt gg
  have hs2 := hb2.size
  have hr2' := hr2
  clear hcl v0 hown
  go_wp2_with fail
  refine hrev.mono ?_
  rintro e3 w3 ⟨rfl, hs3, hb3⟩
  have gw3 := (hb3.block _ hwl).trans gw2
  have gg3 := (hb3.block _ hgl).trans gg2
  have hr3 : IsSl Elt.rule (fun b => b < W.heap.size) w3 (.slice A' g.rules.length c') g.rules := (((hrA.old.weak (G := fun b => b < W.heap.size) fun b hb => hb.2).keep (fun b hb => hb2.block b hb) hs2).keep (fun b hb => hb3.block b hb) hb3.size)
  have hx3 : IsSl Elt.int (fun b => b < W.heap.size) w3 (.slice C x.length cx) x := (((hxA.old.weak (G := fun b => b < W.heap.size) fun b hb => hb.2).keep (fun b hb => hb2.block b hb) hs2).keep (fun b hb => hb3.block b hb) hb3.size)
  have hw3 : Below w.heap.size w w3 := hw2.trans (hb3.mono hwA.size)
  have hof := of_any (fun b => b < W.heap.size) hv (by omega) w3 hcap hok hr3 hx3
  unfold gramV at hof
  have k0 := blk_cell gg3 (i := 0) rfl
  have k1 := blk_cell gg3 (i := 1) rfl
  have k2 := blk_cell gg3 (i := 2) rfl
  have k3 := blk_cell gg3 (i := 3) rfl
  have v0 := blk_cell gw3 (i := 0) rfl
  clear hrev gw2 gg2 hr2 hx2 hr2' hw2 hb2 hb3 gw gg hrA hxA
  go_wp2_with fail
  refine hof.mono ?_
  rintro e4 w4 ⟨M, N4, cn4, hIM, rfl, hb4, hs4⟩
  have hea := made_ok (M := M) hsm (show x.length ≤ 8 by omega)
  rw [hea]
  generalize hfe : (madeF g x M).1 = fa at hs4 ⊢
  have HFA := Lib.hid hfe
  have hbX := below1 w4 (.cells #[.slice N4 fa.nodes.length cn4, .int .i64 fa.root] 30)
  have gx := heap_alloc_new w4 (.cells #[.slice N4 fa.nodes.length cn4, .int .i64 fa.root] 30)
  have hbW := hb4.trans (hbX.mono hb4.size)
  have gg5 := blk_below hbW (blk_lt gg3) gg3
  have gw5 := blk_below hbW (blk_lt gw3) gw3
  have hr5 := hr3.below hbW
  have hv5 := hs3.below hbW
  have ha5 := (hs4.below hbX).weak (G := fun _ => True) fun _ _ => trivial
  have hw5 := hw3.trans (hbW.mono hw3.size)
  have hmg := mirrored_any _ g A' c' _ hr5 hv
  unfold gramV at hmg
  clear hof k0 k1 k2 k3 v0 gg3 gw3 hr3 hx3 hs3 hs4 hw3 hb4 hbX hbW hfe hea
  have k0 := blk_cell gg5 (i := 0) rfl
  have k1 := blk_cell gg5 (i := 1) rfl
  have k2 := blk_cell gg5 (i := 2) rfl
  have k3 := blk_cell gg5 (i := 3) rfl
  go_wp2_with fail
  generalize w4.alloc (.cells #[.slice N4 fa.nodes.length cn4, .int .i64 fa.root] 30) = w5 at gx gg5 gw5 hr5 hv5 ha5 hw5 hmg k0 k1 k2 k3 ⊢
  generalize w4.heap.size = bxa at gx ⊢
  refine hmg.mono ?_
  rintro e6 w6 ⟨A6, c6, rfl, hb6, hcap6, hs6⟩
  have hlen : (mirG g).rules.length = g.rules.length := by simp [mirG]
  have hvm := mir_valid hv
  have hokm : OkWord (mirG g) x.reverse := fun t ht => hok t (by simpa using ht)
  have hof2 := of_any (g := mirG g) (x := x.reverse) (A := A6) (c := c6) (B := A9) (d := c9) (fun _ => True) hvm (by rw [List.length_reverse]; omega) w6 (by rw [hlen]; exact hcap6) hokm (by rw [hlen]; exact hs6.weak fun _ _ => trivial) (by rw [List.length_reverse]; exact (hv5.below hb6).weak fun _ _ => trivial)
  rw [hlen, List.length_reverse] at hof2
  unfold gramV at hof2
  have gx6 := blk_below hb6 (blk_lt gx) gx
  have gw6 := blk_below hb6 (blk_lt gw5) gw5
  have ha6 := ha5.below hb6
  have hw6 := hw5.trans (hb6.mono hw5.size)
  clear hmg k0 k1 k2 k3 gx gg5 gw5 hr5 hv5 ha5 hw5 hs6 hb6
  go_wp2_with fail
  refine hof2.mono ?_
  rintro e7 w7 ⟨M', N7, cn7, hIM', rfl, hb7, hs7⟩
  have heb := made_ok (M := M') (mir_small hsm) (show x.reverse.length ≤ 8 by rw [List.length_reverse]; omega)
  have hmir : Mir g x M (mirG g) x.reverse M' := ⟨rfl, rfl, hIM, hIM'⟩
  obtain ⟨q1, q2, q3⟩ := hmir.law hsm (mir_small hsm) (by omega)
  have hin := made_in (M := M) hsm (show x.length ≤ 8 by omega)
  have hpk := made_packs (M := M) hsm (show x.length ≤ 8 by omega)
  rw [HFA.out] at q1 q2 q3 hin hpk
  rw [heb]
  generalize (madeF (mirG g) x.reverse M').1 = fb at hs7 q1 q2 q3 ⊢
  rw [← q2] at hs7 ⊢
  have hbY := below1 w7 (.cells #[.slice N7 fa.nodes.length cn7, .int .i64 fb.root] 30)
  have gy := heap_alloc_new w7 (.cells #[.slice N7 fa.nodes.length cn7, .int .i64 fb.root] 30)
  have hbZ := hb7.trans (hbY.mono hb7.size)
  have gx8 := blk_below hbZ (blk_lt gx6) gx6
  have gw8 := blk_below hbZ (blk_lt gw6) gw6
  have ha8 := ha6.below hbZ
  have hb8 := (hs7.below hbY).weak (G := fun _ => True) fun _ _ => trivial
  have hw8 := hw6.trans (hbZ.mono hw6.size)
  have HQ1 := Lib.hid q1
  have HQ2 := Lib.hid q2
  have HQ3 := Lib.hid q3
  have HIN := Lib.hid hin
  have HPK := Lib.hid hpk
  clear hof2 gx6 gw6 ha6 hw6 hs7 hb7 hbY hbZ q1 q2 q3 hin hpk heb hmir hIM hIM'
  go_wp2_with fail
  generalize w7.alloc (.cells #[.slice N7 fa.nodes.length cn7, .int .i64 fb.root] 30) = w8 at gy gx8 gw8 ha8 hb8 hw8 ⊢
  generalize w7.heap.size = bxb at gy ⊢
  refine (woods_any w8).mono ?_
  rintro e9 w9 ⟨rfl, hb9⟩
  have gy9 := blk_below hb9 (blk_lt gy) gy
  have gx9 := blk_below hb9 (blk_lt gx8) gx8
  have gw9 := blk_below hb9 (blk_lt gw8) gw8
  have ha9 := ha8.below hb9
  have hn9 := hb8.below hb9
  have hw9 := hw8.trans (hb9.mono hw8.size)
  clear gy gx8 gw8 ha8 hb8 hw8 hb9
  have q0 := cell_behind (blk_cell gx9 (i := 0) rfl)
  have q1 := cell_behind (blk_cell gx9 (i := 1) rfl)
  have q2 := cell_behind (blk_cell gy9 (i := 0) rfl)
  have q3 := cell_behind (blk_cell gy9 (i := 1) rfl)
  have hp1 : ∀ P : Behind w9, Calls Try.prog 24 #[.agg #[.slice N4 fa.nodes.length cn4, .int .i64 fa.root]] P.w' fun e w' => e = .returned (.int .i64 ((fa.nodes.map fun n => n.packs.length).sum : Nat)) ∧ Below P.w'.heap.size P.w' w' := fun P => packs_any _ fa.nodes fa.root N4 cn4 P.w' (ha9.below P.h) (by have := HPK.out; unfold maxPacks at this; omega)
  have hp2 : ∀ P : Behind w9, Calls Try.prog 24 #[.agg #[.slice N7 fa.nodes.length cn7, .int .i64 fb.root]] P.w' fun e w' => e = .returned (.int .i64 ((fa.nodes.map fun n => n.packs.length).sum : Nat)) ∧ Below P.w'.heap.size P.w' w' := fun P => by
    have h := packs_any _ fb.nodes fb.root N7 cn7 P.w' (by rw [← HQ2.out]; exact hn9.below P.h) (by rw [← HQ3.out]; have := HPK.out; unfold maxPacks at this; omega)
    rw [← HQ2.out, ← HQ3.out] at h
    exact h
  have hc1 := fun P : Behind w9 => Calls.behind (hp1 P)
  have hc2 := fun P : Behind w9 => Calls.behind (hp2 P)
  have HC1 := Lib.hid hc1
  have HC2 := Lib.hid hc2
  clear hp1 hp2 hc1 hc2
  generalize (fa.nodes.map fun n => n.packs.length).sum = np at HC1 HC2
  go_wp2_with fail
  refine wp_region_behind (by kernel_rfl) (by kernel_rfl) ?_
  repeat (go_big_quiet_step ((first | with_reducible exact HC1.out _ | with_reducible exact HC2.out _)))
  refine wpQuiet_nil ?_
  intro _ hw'
  obtain ⟨P2, hw''⟩ := hw'
  subst hw''
  have hbP := P2.h
  have gy10 := blk_below hbP (blk_lt gy9) gy9
  have gx10 := blk_below hbP (blk_lt gx9) gx9
  have gw10 := blk_below hbP (blk_lt gw9) gw9
  have ha10 := ha9.below hbP
  have hn10 := hn9.below hbP
  have hw10 := hw9.trans (hbP.mono hw9.size)
  clear q0 q1 q2 q3 HC1 HC2 gy9 gx9 gw9 ha9 hn9 hw9 hbP
  generalize P2.w' = w10 at gy10 gx10 gw10 ha10 hn10 hw10 ⊢
  have m0 := blk_cell gx10 (i := 0) rfl
  go_wp2_with fail
  clear m0
  have hft := ha10.len.2
  have hbyl := blk_lt gy10
  have hbwl := blk_lt gw10
  go_loopg [65] fa.nodes.length (fun gk i wr => ∃ k : Nat, k ≤ fa.nodes.length ∧ gk = fa.nodes.length - k ∧ i = .int .i64 k ∧ Below w10.heap.size w10 wr)
  case atStart => exact ⟨0, by omega, by omega, rfl, Below.refl _ _⟩
  case round =>
    obtain ⟨k, hk, rfl, rfl, hbk⟩ := hrel
    obtain ⟨wk, rfl⟩ : ∃ wk : World, wk = wr := ⟨_, rfl⟩
    by_cases hlt : k < fa.nodes.length
    · obtain ⟨b5, o5, rfl, _, _, c0, c1, c2, c3, A5, c5, c4, _⟩ := (ha10.below hbk).nodeAt k hlt
      have hkz : (k : Int) < (fa.nodes.length : Int) := by omega
      have hex := HQ1.out fa.nodes[k] (List.getElem_mem hlt)
      have hni := HIN.out fa.nodes[k] (List.getElem_mem hlt)
      generalize fa.nodes[k] = nd at c0 c1 c2 c3 c4 hex hni
      have hbB := below1 wk (.cells #[.bool nd.y.t, .int .i64 nd.y.n, .int .i64 nd.i, .int .i64 nd.j, .slice A5 nd.packs.length c5] 40)
      have hrr := heap_alloc_new wk (.cells #[.bool nd.y.t, .int .i64 nd.y.n, .int .i64 nd.i, .int .i64 nd.j, .slice A5 nd.packs.length c5] 40)
      have hbk2 := hbk.trans (hbB.mono hbk.size)
      have gyk := blk_below hbk2 hbyl gy10
      have gwk := blk_below hbk2 hbwl gw10
      have q0 := blk_cell gyk (i := 0) rfl
      have hsk := hn10.below hbk2
      have hex2 : ∃ m ∈ fb.nodes, decide (m.y = nd.y ∧ m.i = x.length - nd.j ∧ m.j = x.length - nd.i ∧ m.packs.length = nd.packs.length) = true := by
        obtain ⟨m, hm, h⟩ := hex
        exact ⟨m, hm, decide_eq_true h⟩
      have hen : ∀ args w, (callFunc 26 args).run Try.prog w = .ok (.enter 26 args) w := enters_of Try.func26 (by kernel_rfl) rfl
      have hco := contains_node (F := fun _ => True) (id := 26) (caps := #[.pointer (some ⟨wk.heap.size, 0, none⟩), .pointer (some ⟨w.heap.size, 0, none⟩)]) (fun m => decide (m.y = nd.y ∧ m.i = x.length - nd.j ∧ m.j = x.length - nd.i ∧ m.packs.length = nd.packs.length)) fb.nodes N7 cn7 _ (by rw [← HQ2.out]; exact hsk) hen (fun m B d W hb => mirNode_any nd m B d wk.heap.size w.heap.size A5 c5 C x.length cx W (blk_below hb (by rw [World.size_alloc]; omega) hrr) (blk_below hb (blk_lt gwk) gwk) (by omega) hni.1 hni.2) hex2
      rw [← HQ2.out] at hco
      have HCO := Lib.hid hco
      clear hco hen hex hex2 hsk hrr
      go_wp2_with fail
      refine HCO.out.mono ?_
      rintro e11 w11 ⟨rfl, hb11⟩
      go_wp2_with fail
      go_roundg (fa.nodes.length - (k + 1))
      case measure => omega
      case rel => exact ⟨k + 1, by omega, rfl, by go_num, hbk2.trans (hb11.mono hbk2.size)⟩
    · obtain rfl : k = fa.nodes.length := by omega
      go_wp2_with fail
      go_ret
      exact ⟨rfl, hw10.trans (hbk.mono hw10.size)⟩
end Go.Proofs.Ytdbkbkopcnkgcaa
